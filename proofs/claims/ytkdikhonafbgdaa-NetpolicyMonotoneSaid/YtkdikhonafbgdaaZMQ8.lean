/- Part of a claim: see its row. Conditions: stated at each. -/
import Derived.Test.YtkdikhonafbgdaaZMQ0
import Derived.Test.YtkdikhonafbgdaaZMQ6
namespace Go.Proofs.Ytkdikhonafbgdaa.Q
open Go.RowKit Go.Proofs.YtkdikhonafbgdaaW.PrintWords Go.Proofs.YtkdikhonafbgdaaW.PrintLast Go.Proofs.YtkdikhonafbgdaaW.PrintMore Go.Proofs.Ytkdikhonafbgdaa.Sh
attribute [local go_sem] max2_int min2_int max_two min_two max_three min_three max_four min_four
set_option linter.unusedVariables false
set_option linter.unusedSimpArgs false
mutual
def netpolicy_Reach.l0 : Nat → List (S54) → List (S41) → Int → List (S48) → Int → Int → Option ((List (S48)))
 | 0, _, _, _, _, _, _ => none
 | k + 1, x0, x1, x2, x7, x11, x12 => if x12 < x11 then (netpolicy_Reach.l1 k x0 x1 x2 x7 x12 x11 x12 (x1.length : Int) 0) else (some x7)
def netpolicy_Reach.l1 : Nat → List (S54) → List (S41) → Int → List (S48) → Int → Int → Int → Int → Int → Option ((List (S48)))
 | 0, _, _, _, _, _, _, _, _, _ => none
 | k + 1, x0, x1, x2, x7, x8, x11, x12, x16, x17 => if x17 < x16 then (if x8 = x17 then (netpolicy_Reach.l1 k x0 x1 x2 x7 x8 x11 x12 x16 (wrap64 (x17 + 1))) else (if 0 ≤ x8 then (if x8 < (x1.length : Int) then (if 0 ≤ x17 then (if x17 < (x1.length : Int) then ((netpolicy_Allowed.f k x0 ((rd_T41 x1 x8).f0.f0) ((rd_T41 x1 x8).f0.f1) ((rd_T41 x1 x8).f0.f2) ((rd_T41 x1 x8).f0.f3) ((rd_T41 x1 x8).f0.f4) ((rd_T41 x1 x8).f0.f5) ((rd_T41 x1 x8).f0.f6) ((rd_T41 x1 x8).f0.f7) ((rd_T41 x1 x8).f0.f8) ((rd_T41 x1 x8).f0.f9) ((rd_T41 x1 x8).f0.f10) ((rd_T41 x1 x8).f0.f11) ((rd_T41 x1 x8).f0.f12) ((rd_T41 x1 x8).f1.f0) ((rd_T41 x1 x8).f1.f1) ((rd_T41 x1 x8).f1.f2) ((rd_T41 x1 x8).f1.f3) ((rd_T41 x1 x8).f1.f4) ((rd_T41 x1 x8).f1.f5) ((rd_T41 x1 x8).f1.f6) ((rd_T41 x1 x8).f1.f7) ((rd_T41 x1 x8).f1.f8) ((rd_T41 x1 x8).f1.f9) ((rd_T41 x1 x8).f2.f0) ((rd_T41 x1 x8).f2.f1) ((rd_T41 x1 x8).f2.f2) ((rd_T41 x1 x8).f2.f3) ((rd_T41 x1 x8).f2.f4) ((rd_T41 x1 x8).f2.f5) ((rd_T41 x1 x8).f2.f6) ((rd_T41 x1 x8).f2.f7) ((rd_T41 x1 x8).f2.f8) ((rd_T41 x1 x17).f0.f0) ((rd_T41 x1 x17).f0.f1) ((rd_T41 x1 x17).f0.f2) ((rd_T41 x1 x17).f0.f3) ((rd_T41 x1 x17).f0.f4) ((rd_T41 x1 x17).f0.f5) ((rd_T41 x1 x17).f0.f6) ((rd_T41 x1 x17).f0.f7) ((rd_T41 x1 x17).f0.f8) ((rd_T41 x1 x17).f0.f9) ((rd_T41 x1 x17).f0.f10) ((rd_T41 x1 x17).f0.f11) ((rd_T41 x1 x17).f0.f12) ((rd_T41 x1 x17).f1.f0) ((rd_T41 x1 x17).f1.f1) ((rd_T41 x1 x17).f1.f2) ((rd_T41 x1 x17).f1.f3) ((rd_T41 x1 x17).f1.f4) ((rd_T41 x1 x17).f1.f5) ((rd_T41 x1 x17).f1.f6) ((rd_T41 x1 x17).f1.f7) ((rd_T41 x1 x17).f1.f8) ((rd_T41 x1 x17).f1.f9) ((rd_T41 x1 x17).f2.f0) ((rd_T41 x1 x17).f2.f1) ((rd_T41 x1 x17).f2.f2) ((rd_T41 x1 x17).f2.f3) ((rd_T41 x1 x17).f2.f4) ((rd_T41 x1 x17).f2.f5) ((rd_T41 x1 x17).f2.f6) ((rd_T41 x1 x17).f2.f7) ((rd_T41 x1 x17).f2.f8) x2).bind fun t224 => (if t224 = true then (if x7.length < 8796093022208 then (netpolicy_Reach.l1 k x0 x1 x2 (x7 ++ [(⟨x8, x17⟩ : S48)]) x8 x11 x12 x16 (wrap64 (x17 + 1))) else (none)) else (netpolicy_Reach.l1 k x0 x1 x2 x7 x8 x11 x12 x16 (wrap64 (x17 + 1))))) else (none)) else (none)) else (none)) else (none))) else (netpolicy_Reach.l0 k x0 x1 x2 x7 x11 (wrap64 (x12 + 1)))
end
def netpolicy_Reach.f (k : Nat) (l0 : List (S54)) (l1 : List (S41)) (a2 : Int) : Option ((List (S48))) := netpolicy_Reach.l0 k l0 l1 a2 ([] : List (S48)) (l1.length : Int) 0
theorem netpolicy_Reach.mono_l : ∀ k, (∀ y0 y1 y2 y3 y4 y5, LeO (netpolicy_Reach.l0 k y0 y1 y2 y3 y4 y5) (netpolicy_Reach.l0 (k + 1) y0 y1 y2 y3 y4 y5)) ∧ (∀ y0 y1 y2 y3 y4 y5 y6 y7 y8, LeO (netpolicy_Reach.l1 k y0 y1 y2 y3 y4 y5 y6 y7 y8) (netpolicy_Reach.l1 (k + 1) y0 y1 y2 y3 y4 y5 y6 y7 y8))
 | 0 => ⟨fun _ _ _ _ _ _ r h => by simp [netpolicy_Reach.l0] at h, fun _ _ _ _ _ _ _ _ _ r h => by simp [netpolicy_Reach.l1] at h⟩
 | k + 1 => by
  obtain ⟨ih0, ih1⟩ := netpolicy_Reach.mono_l k
  refine ⟨?_, ?_⟩
  ·intro y0 y1 y2 y3 y4 y5
   unfold netpolicy_Reach.l0
   repeat' first
   | (with_reducible exact ih0 _ _ _ _ _ _)
   | (with_reducible exact ih1 _ _ _ _ _ _ _ _ _)
   | (with_reducible exact netpolicy_Allowed.mono _ _ _ _ _ _ _ _ _ _ _ _ _ _ _ _ _ _ _ _ _ _ _ _ _ _ _ _ _ _ _ _ _ _ _ _ _ _ _ _ _ _ _ _ _ _ _ _ _ _ _ _ _ _ _ _ _ _ _ _ _ _ _ _ _ _ _)
   | (with_reducible exact LeO.refl _)
   | (with_reducible exact LeO.none _)
   | (with_reducible refine LeO.ite ?_ ?_)
   | (with_reducible refine LeO.bind ?_ (fun _ => ?_))
   | exact ih0 _ _ _ _ _ _
   | exact ih1 _ _ _ _ _ _ _ _ _
   | exact netpolicy_Allowed.mono _ _ _ _ _ _ _ _ _ _ _ _ _ _ _ _ _ _ _ _ _ _ _ _ _ _ _ _ _ _ _ _ _ _ _ _ _ _ _ _ _ _ _ _ _ _ _ _ _ _ _ _ _ _ _ _ _ _ _ _ _ _ _ _ _ _ _
   | exact LeO.none _
   | refine LeO.ite ?_ ?_
   | refine LeO.bind ?_ (fun _ => ?_)
  ·intro y0 y1 y2 y3 y4 y5 y6 y7 y8
   unfold netpolicy_Reach.l1
   repeat' first
   | (with_reducible exact ih0 _ _ _ _ _ _)
   | (with_reducible exact ih1 _ _ _ _ _ _ _ _ _)
   | (with_reducible exact netpolicy_Allowed.mono _ _ _ _ _ _ _ _ _ _ _ _ _ _ _ _ _ _ _ _ _ _ _ _ _ _ _ _ _ _ _ _ _ _ _ _ _ _ _ _ _ _ _ _ _ _ _ _ _ _ _ _ _ _ _ _ _ _ _ _ _ _ _ _ _ _ _)
   | (with_reducible exact LeO.refl _)
   | (with_reducible exact LeO.none _)
   | (with_reducible refine LeO.ite ?_ ?_)
   | (with_reducible refine LeO.bind ?_ (fun _ => ?_))
   | exact ih0 _ _ _ _ _ _
   | exact ih1 _ _ _ _ _ _ _ _ _
   | exact netpolicy_Allowed.mono _ _ _ _ _ _ _ _ _ _ _ _ _ _ _ _ _ _ _ _ _ _ _ _ _ _ _ _ _ _ _ _ _ _ _ _ _ _ _ _ _ _ _ _ _ _ _ _ _ _ _ _ _ _ _ _ _ _ _ _ _ _ _ _ _ _ _
   | exact LeO.none _
   | refine LeO.ite ?_ ?_
   | refine LeO.bind ?_ (fun _ => ?_)
theorem netpolicy_Reach.mono : ∀ a0 a1 a2 k, LeO (netpolicy_Reach.f k a0 a1 a2) (netpolicy_Reach.f (k + 1) a0 a1 a2) := by
 intro a0 a1 a2 k
 obtain ⟨ih0, ih1⟩ := netpolicy_Reach.mono_l k
 unfold netpolicy_Reach.f
 repeat' first
   | (with_reducible exact ih0 _ _ _ _ _ _)
   | (with_reducible exact ih1 _ _ _ _ _ _ _ _ _)
   | (with_reducible exact netpolicy_Allowed.mono _ _ _ _ _ _ _ _ _ _ _ _ _ _ _ _ _ _ _ _ _ _ _ _ _ _ _ _ _ _ _ _ _ _ _ _ _ _ _ _ _ _ _ _ _ _ _ _ _ _ _ _ _ _ _ _ _ _ _ _ _ _ _ _ _ _ _)
   | (with_reducible exact LeO.refl _)
   | (with_reducible exact LeO.none _)
   | (with_reducible refine LeO.ite ?_ ?_)
   | (with_reducible refine LeO.bind ?_ (fun _ => ?_))
   | exact ih0 _ _ _ _ _ _
   | exact ih1 _ _ _ _ _ _ _ _ _
   | exact netpolicy_Allowed.mono _ _ _ _ _ _ _ _ _ _ _ _ _ _ _ _ _ _ _ _ _ _ _ _ _ _ _ _ _ _ _ _ _ _ _ _ _ _ _ _ _ _ _ _ _ _ _ _ _ _ _ _ _ _ _ _ _ _ _ _ _ _ _ _ _ _ _
   | exact LeO.none _
   | refine LeO.ite ?_ ?_
   | refine LeO.bind ?_ (fun _ => ?_)
def netpolicy_Reach.T8 : Bool × List (List Nat × List Nat) := (true, [([], []), ([], []), ([0, 1], [0, 1]), ([2], [2]), ([3], [3]), ([3], [3]), ([3], [3]), ([5, 6, 3], [3, 5, 6]), ([7, 3], [3, 7]), ([3], [3]), ([3], [3]), ([9, 10, 3], [3, 9, 10]), ([11, 3], [3, 11]), ([3], [3]), ([4, 8, 12, 13, 3, 3], [3, 4, 8, 12, 13]), ([3, 14], [3, 14])])
def netpolicy_Reach.B8 : List Nat := [0, 0, 3, 7, 15, 15, 15, 111, 239, 15, 15, 1551, 3599, 15, 16383, 32767]
theorem netpolicy_Reach.tab8 : rtab .any (opsOf Try.f14 8) = netpolicy_Reach.T8 := by kernel_rfl
theorem netpolicy_Reach.bits8 : waitsOk netpolicy_Reach.T8.2 netpolicy_Reach.B8 = true := by kernel_rfl
set_option maxHeartbeats 8000000 in
set_option maxRecDepth 100000 in
theorem netpolicy_Reach.calls (k : Nat) (A0 : Option Addr) (c0 : Nat) (l0 : List (S54)) (A1 : Option Addr) (c1 : Nat) (l1 : List (S41)) (a2 : Int) (r : List (S48)) (w : World) (hr0 : Kd.C k54 w A0 l0.length l0) (hc0 : l0.length ≤ c0) (hr1 : Kd.C k41 w A1 l1.length l1) (hc1 : l1.length ≤ c1) (h : netpolicy_Reach.f k l0 l1 a2 = some r) :
  Calls Try.prog 14 #[.slice A0 l0.length c0, .slice A1 l1.length c1, .int .i64 a2] w fun e w' => ∃ v0_ : Value, e = .returned (v0_) ∧ Kd.R k48 48 w' w.heap.size (fun _ => True) v0_ r ∧ Below w.heap.size w w' := by
 have hu41 := Try.underlying41
 have hu48 := Try.underlying48
 have HR0 := s_a hr0
 have HC0 := s_a hc0
 clear hr0 hc0
 have HR1 := s_a hr1
 have HC1 := s_a hc1
 clear hr1 hc1
 have HB := s_a (Below.refl w.heap.size w)
 have H : (netpolicy_Reach.l0 k l0 l1 a2 ([] : List (S48)) (l1.length : Int) 0) = some r := h
 clear h
 have H' := s_a H
 clear H
 go_enter Try.func14, Try.ntmps14
 go_wp2
 go_loopg [7, 12] k (fun kq v7 v12 w' => ∃ (x7_1 : List (S48)) (x12_1 : Int), v12 = .int .i64 x12_1 ∧ Aside0 (netpolicy_Reach.l0 kq l0 l1 a2 x7_1 (l1.length : Int) x12_1 = some r) ∧ Aside0 (kq ≤ k) ∧ Aside0 (Kd.R k48 48 w' w.heap.size (fun _ => True) v7 x7_1) ∧ Aside0 (Below w.heap.size w w'))
 case atStart => exact ⟨(([] : List (S48))), (0), (by first | rfl | (simp; done) | (simp [*]; done)), H', ⟨Nat.le_refl _⟩, ⟨by first | exact Kd.R_nil _ _ _ _ _ | exact Kd.N_nil _ _ _ _ _ | exact Kd.V_nil _ _ _ _ _ | exact Kd.Q_nil _ _ _ _ _ | exact Kd.S_nil _ _ _ _ _⟩, ⟨by exact s_b HB.out⟩⟩
 case round =>
  clear H'
  try clear c1
  try clear p2
  obtain ⟨x7_1, x12_1, rfl, HA, HK1, HO_7, HB⟩ := hrel
  cases gk with
  | zero => exact absurd HA.out (by simp [netpolicy_Reach.l0])
  | succ k1 =>
   have H := HA.out
   clear HA
   simp only [netpolicy_Reach.l0] at H
   by_cases c4 : x12_1 < (l1.length : Int)
   ·rw [if_pos c4] at H
    have c4b0 : decide (x12_1 < (l1.length : Int)) = true := decide_eq_true c4
    clear c4
    have H' := s_a H
    clear H
    go_wp2
    go_loopg [7, 17] k1 (fun kq v7 v17 w' => ∃ (x7_2 : List (S48)) (x17_2 : Int), v17 = .int .i64 x17_2 ∧ Aside0 (netpolicy_Reach.l1 kq l0 l1 a2 x7_2 x12_1 (l1.length : Int) x12_1 (l1.length : Int) x17_2 = some r) ∧ Aside0 (kq ≤ k1) ∧ Aside0 (Kd.R k48 48 w' w.heap.size (fun _ => True) v7 x7_2) ∧ Aside0 (Below w.heap.size w w'))
    case atStart => exact ⟨(x7_1), (0), (by first | rfl | (simp; done) | (simp [*]; done)), H', ⟨Nat.le_refl _⟩, ⟨by exact s_R (HO_7.out)⟩, ⟨by exact s_b HB.out⟩⟩
    case round =>
     clear H'
     try clear c1
     try clear p2
     try clear c4
     try clear c4b0
     try clear p2
     obtain ⟨x7_2, x17_2, rfl, HA, HK2, HO_7, HB⟩ := hrel
     cases gk with
     | zero => exact absurd HA.out (by simp [netpolicy_Reach.l1])
     | succ k2 =>
      have H := HA.out
      clear HA
      simp only [netpolicy_Reach.l1] at H
      by_cases c5 : x17_2 < (l1.length : Int)
      ·rw [if_pos c5] at H
       have c5b0 : decide (x17_2 < (l1.length : Int)) = true := decide_eq_true c5
       clear c5
       by_cases c6 : x12_1 = x17_2
       ·rw [if_pos c6] at H
        have c6b0 : (x12_1 == x17_2) = true := beq_iff_eq.mpr c6
        have c6b1 : (x12_1 != x17_2) = false := bne_eq_false_iff_eq.mpr c6
        clear c6
        have H' := s_a H
        clear H
        try go_wp2
        replace HO_7 := s_a (Kd.R_drew HO_7.out)
        replace HB := s_a (below_drew1 HB.out)
        refine start_ (n := 16) (S := fun w' => True) (ds := []) (bz 16 0) (by kernel_rfl) rfl rfl trivial (fun hHeld => ?_); refine with_tabW netpolicy_Reach.tab8 netpolicy_Reach.bits8 (fun HT_ HW_ => ?_)
        generalize wr.drew = w7 at HO_7 HB hHeld ⊢
        refine q_p 0 (some 20) (bz 16 1) (any_of HT_.out (by kernel_rfl)) (v := ?_) ?_ (a' := ?_) ?_ ?_; rotate_left 2
        ·intro w'; go_simp; with_reducible rfl
        ·simp only [Act.put, List.setIfInBounds_toArray, List.set_cons_zero, List.set_cons_succ, i64_w, i32_w]; rfl
        refine q_p 1 (some 21) (bz 16 3) (any_of HT_.out (by kernel_rfl)) (v := ?_) ?_ (a' := ?_) ?_ ?_; rotate_left 2
        ·intro w'; go_simp; with_reducible rfl
        ·simp only [Act.put, List.setIfInBounds_toArray, List.set_cons_zero, List.set_cons_succ, i64_w, i32_w]; rfl
        refine q_p 2 (some 22) (bz 16 7) (any_of HT_.out (by kernel_rfl)) (v := ?_) ?_ (a' := ?_) ?_ ?_; rotate_left 2
        ·intro w'; go_simp; with_reducible rfl
        ·simp only [Act.put, List.setIfInBounds_toArray, List.set_cons_zero, List.set_cons_succ, i64_w, i32_w]; rfl
        refine q_p 3 (some 23) (bz 16 15) (any_of HT_.out (by kernel_rfl)) (v := ?_) ?_ (a' := ?_) ?_ ?_; rotate_left 2
        ·intro w'; go_simp; with_reducible rfl
        ·simp only [Act.put, List.setIfInBounds_toArray, List.set_cons_zero, List.set_cons_succ, i64_w, i32_w]; rfl
        refine q_o 4 (some 24) (bz 16 31) (any_of HT_.out (by kernel_rfl)) (a' := ?_) ?_ ?_; rotate_left
        ·simp only [Act.put, List.setIfInBounds_toArray, List.set_cons_zero, List.set_cons_succ, i64_w, i32_w]; rfl
        refine q_o 5 (some 25) (bz 16 63) (any_of HT_.out (by kernel_rfl)) (a' := ?_) ?_ ?_; rotate_left
        ·simp only [Act.put, List.setIfInBounds_toArray, List.set_cons_zero, List.set_cons_succ, i64_w, i32_w]; rfl
        refine q_o 6 (some 26) (bz 16 127) (any_of HT_.out (by kernel_rfl)) (a' := ?_) ?_ ?_; rotate_left
        ·simp only [Act.put, List.setIfInBounds_toArray, List.set_cons_zero, List.set_cons_succ, i64_w, i32_w]; rfl
        refine q_o 7 (some 27) (bz 16 255) (any_of HT_.out (by kernel_rfl)) (a' := ?_) ?_ ?_; rotate_left
        ·simp only [Act.put, List.setIfInBounds_toArray, List.set_cons_zero, List.set_cons_succ, i64_w, i32_w]; rfl
        refine q_o 8 (some 28) (bz 16 511) (any_of HT_.out (by kernel_rfl)) (a' := ?_) ?_ ?_; rotate_left
        ·simp only [Act.put, List.setIfInBounds_toArray, List.set_cons_zero, List.set_cons_succ, i64_w, i32_w]; rfl
        refine q_o 9 (some 29) (bz 16 1023) (any_of HT_.out (by kernel_rfl)) (a' := ?_) ?_ ?_; rotate_left
        ·simp only [Act.put, List.setIfInBounds_toArray, List.set_cons_zero, List.set_cons_succ, i64_w, i32_w]; rfl
        refine q_o 10 (some 30) (bz 16 2047) (any_of HT_.out (by kernel_rfl)) (a' := ?_) ?_ ?_; rotate_left
        ·simp only [Act.put, List.setIfInBounds_toArray, List.set_cons_zero, List.set_cons_succ, i64_w, i32_w]; rfl
        refine q_o 11 (some 31) (bz 16 4095) (any_of HT_.out (by kernel_rfl)) (a' := ?_) ?_ ?_; rotate_left
        ·simp only [Act.put, List.setIfInBounds_toArray, List.set_cons_zero, List.set_cons_succ, i64_w, i32_w]; rfl
        refine q_o 12 (some 32) (bz 16 8191) (any_of HT_.out (by kernel_rfl)) (a' := ?_) ?_ ?_; rotate_left
        ·simp only [Act.put, List.setIfInBounds_toArray, List.set_cons_zero, List.set_cons_succ, i64_w, i32_w]; rfl
        refine q_o 13 (some 33) (bz 16 16383) (any_of HT_.out (by kernel_rfl)) (a' := ?_) ?_ ?_; rotate_left
        ·simp only [Act.put, List.setIfInBounds_toArray, List.set_cons_zero, List.set_cons_succ, i64_w, i32_w]; rfl
        refine q_o 14 (some 34) (bz 16 32767) (any_of HT_.out (by kernel_rfl)) (a' := ?_) ?_ ?_; rotate_left
        ·simp only [Act.put, List.setIfInBounds_toArray, List.set_cons_zero, List.set_cons_succ, i64_w, i32_w]; rfl
        refine q_p 15 (some 35) (bz 16 65535) (any_of HT_.out (by kernel_rfl)) (v := ?_) ?_ (a' := ?_) ?_ ?_; rotate_left 2
        ·intro w'; go_simp; with_reducible rfl
        ·simp only [Act.put, List.setIfInBounds_toArray, List.set_cons_zero, List.set_cons_succ, i64_w, i32_w]; rfl
        refine done_ (done_of HT_.out (by kernel_rfl)) ?_
        try go_wp2
        go_roundg k2
        case measure => have := HK1.out; have := HK2.out; omega
        case rel => exact ⟨(x7_2), (wrap64 (x17_2 + 1)), (by first | rfl | (simp; done) | (simp [*]; done)), H', ⟨by have := HK1.out; have := HK2.out; omega⟩, ⟨by exact s_R (HO_7.out)⟩, ⟨by exact s_b HB.out⟩⟩
       ·rw [if_neg c6] at H
        have c6b0 : (x12_1 == x17_2) = false := beq_eq_false_iff_ne.mpr c6
        have c6b1 : (x12_1 != x17_2) = true := bne_iff_ne.mpr c6
        by_cases c8 : 0 ≤ x12_1
        ·rw [if_pos c8] at H
         have c8b0 : decide (0 ≤ x12_1) = true := decide_eq_true c8
         clear c8
         by_cases c9 : x12_1 < (l1.length : Int)
         ·rw [if_pos c9] at H
          have c9b0 : decide (x12_1 < (l1.length : Int)) = true := decide_eq_true c9
          clear c9
          by_cases c10 : 0 ≤ x17_2
          ·rw [if_pos c10] at H
           have c10b0 : decide (0 ≤ x17_2) = true := decide_eq_true c10
           clear c10
           by_cases c11 : x17_2 < (l1.length : Int)
           ·rw [if_pos c11] at H
            have c11b0 : decide (x17_2 < (l1.length : Int)) = true := decide_eq_true c11
            clear c11
            replace H := Option.bind_eq_some_iff.mp H
            obtain ⟨t224, A120, H⟩ := H
            (try dsimp only at H)
            have A12 := s_a A120
            clear A120
            by_cases c13 : t224 = true
            ·subst c13
             (try rw [if_pos rfl] at H)
             by_cases c14 : x7_2.length < 8796093022208
             ·rw [if_pos c14] at H
              have LMc14 := s_a c14
              clear c14
              obtain ⟨y225, hy225⟩ : ∃ y_ : List (S48), y_ = (x7_2 ++ [(⟨x12_1, x17_2⟩ : S48)]) := ⟨_, rfl⟩
              replace H : (netpolicy_Reach.l1 k2 l0 l1 a2 y225 x12_1 (l1.length : Int) x12_1 (l1.length : Int) (wrap64 (x17_2 + 1))) = some r := by first | (rw [hy225]; with_reducible exact H) | (have H2_ := (Option.bind_some _ _).symm.trans H; rw [hy225]; with_reducible exact H2_) | (have H2_ := (Option.bind_some _ _).symm.trans H; with_reducible exact H2_) | with_reducible exact H | (rw [hy225]; exact H) | exact H
              have Ny225 := s_a hy225
              clear hy225
              have H' := s_a H
              clear H
              try go_wp2
              replace HO_7 := s_a (Kd.R_drew HO_7.out)
              replace HB := s_a (below_drew1 HB.out)
              have p222 : 0 ≤ (x12_1 : Int) := of_decide_eq_true (by first | (with_reducible assumption) | assumption)
              have q222 : x12_1 < (l1.length : Int) := of_decide_eq_true (by first | (with_reducible assumption) | assumption)
              obtain ⟨ad222, A222_9, c222_9, A222_10, c222_10, A222_11, c222_11, A222_12, c222_12, A222_17, c222_17, A222_18, c222_18, A222_19, c222_19, A222_20, c222_20, A222_21, c222_21, A222_22, c222_22, A222_28, c222_28, e222, hx222_0, hx222_1, hx222_2, hx222_3, hx222_4, hx222_5, hx222_6, hx222_7, hx222_8, hx222_9, hx222_10, hx222_11, hx222_12, hx222_13, hx222_14, hx222_15, hx222_16, hx222_17, hx222_18, hx222_19, hx222_20, hx222_21, hx222_22, hx222_23, hx222_24, hx222_25, hx222_26, hx222_27, hx222_28, hx222_29, hx222_30, hx222_31, hl222_9, hi222_9, hl222_10, hi222_10, hl222_11, hi222_11, hl222_12, hi222_12, hl222_17, hi222_17, hl222_18, hi222_18, hl222_19, hi222_19, hl222_20, hi222_20, hl222_21, hi222_21, hl222_22, hi222_22, hl222_28, hi222_28⟩ := at_T41 HR1.out x12_1 p222 q222
              have hw222_31 := hx222_31
              have hw222_30 := hx222_30
              have hw222_29 := hx222_29
              have hw222_28 := hx222_28
              have hw222_27 := hx222_27
              have hw222_26 := hx222_26
              have hw222_25 := hx222_25
              have hw222_24 := hx222_24
              have hw222_23 := hx222_23
              have hw222_22 := hx222_22
              have hw222_21 := hx222_21
              have hw222_20 := hx222_20
              have hw222_19 := hx222_19
              have hw222_18 := hx222_18
              have hw222_17 := hx222_17
              have hw222_16 := hx222_16
              have hw222_15 := hx222_15
              have hw222_14 := hx222_14
              have hw222_13 := hx222_13
              have hw222_12 := hx222_12
              have hw222_11 := hx222_11
              have hw222_10 := hx222_10
              have hw222_9 := hx222_9
              have hw222_8 := hx222_8
              have hw222_7 := hx222_7
              have hw222_6 := hx222_6
              have hw222_5 := hx222_5
              have hw222_4 := hx222_4
              have hw222_3 := hx222_3
              have hw222_2 := hx222_2
              have hw222_1 := hx222_1
              have hw222_0 := hx222_0
              cases e222
              replace hx222_0 := s_m HB.out hx222_0
              replace hx222_1 := s_m HB.out hx222_1
              replace hx222_2 := s_m HB.out hx222_2
              replace hx222_3 := s_m HB.out hx222_3
              replace hx222_4 := s_m HB.out hx222_4
              replace hx222_5 := s_m HB.out hx222_5
              replace hx222_6 := s_m HB.out hx222_6
              replace hx222_7 := s_m HB.out hx222_7
              replace hx222_8 := s_m HB.out hx222_8
              replace hx222_9 := s_m HB.out hx222_9
              replace hx222_10 := s_m HB.out hx222_10
              replace hx222_11 := s_m HB.out hx222_11
              replace hx222_12 := s_m HB.out hx222_12
              replace hx222_13 := s_m HB.out hx222_13
              replace hx222_14 := s_m HB.out hx222_14
              replace hx222_15 := s_m HB.out hx222_15
              replace hx222_16 := s_m HB.out hx222_16
              replace hx222_17 := s_m HB.out hx222_17
              replace hx222_18 := s_m HB.out hx222_18
              replace hx222_19 := s_m HB.out hx222_19
              replace hx222_20 := s_m HB.out hx222_20
              replace hx222_21 := s_m HB.out hx222_21
              replace hx222_22 := s_m HB.out hx222_22
              replace hx222_23 := s_m HB.out hx222_23
              replace hx222_24 := s_m HB.out hx222_24
              replace hx222_25 := s_m HB.out hx222_25
              replace hx222_26 := s_m HB.out hx222_26
              replace hx222_27 := s_m HB.out hx222_27
              replace hx222_28 := s_m HB.out hx222_28
              replace hx222_29 := s_m HB.out hx222_29
              replace hx222_30 := s_m HB.out hx222_30
              replace hx222_31 := s_m HB.out hx222_31
              have HR222_9 := s_a hi222_9
              have HC222_9 := s_a hl222_9
              clear hi222_9 hl222_9
              have HR222_10 := s_a hi222_10
              have HC222_10 := s_a hl222_10
              clear hi222_10 hl222_10
              have HR222_11 := s_a hi222_11
              have HC222_11 := s_a hl222_11
              clear hi222_11 hl222_11
              have HR222_12 := s_a hi222_12
              have HC222_12 := s_a hl222_12
              clear hi222_12 hl222_12
              have HR222_17 := s_a hi222_17
              have HC222_17 := s_a hl222_17
              clear hi222_17 hl222_17
              have HR222_18 := s_a hi222_18
              have HC222_18 := s_a hl222_18
              clear hi222_18 hl222_18
              have HR222_19 := s_a hi222_19
              have HC222_19 := s_a hl222_19
              clear hi222_19 hl222_19
              have HR222_20 := s_a hi222_20
              have HC222_20 := s_a hl222_20
              clear hi222_20 hl222_20
              have HR222_21 := s_a hi222_21
              have HC222_21 := s_a hl222_21
              clear hi222_21 hl222_21
              have HR222_22 := s_a hi222_22
              have HC222_22 := s_a hl222_22
              clear hi222_22 hl222_22
              have HR222_28 := s_a hi222_28
              have HC222_28 := s_a hl222_28
              clear hi222_28 hl222_28
              replace p222 := eq_true p222
              replace q222 := eq_true q222
              have p223 : 0 ≤ (x17_2 : Int) := of_decide_eq_true (by first | (with_reducible assumption) | assumption)
              have q223 : x17_2 < (l1.length : Int) := of_decide_eq_true (by first | (with_reducible assumption) | assumption)
              obtain ⟨ad223, A223_9, c223_9, A223_10, c223_10, A223_11, c223_11, A223_12, c223_12, A223_17, c223_17, A223_18, c223_18, A223_19, c223_19, A223_20, c223_20, A223_21, c223_21, A223_22, c223_22, A223_28, c223_28, e223, hx223_0, hx223_1, hx223_2, hx223_3, hx223_4, hx223_5, hx223_6, hx223_7, hx223_8, hx223_9, hx223_10, hx223_11, hx223_12, hx223_13, hx223_14, hx223_15, hx223_16, hx223_17, hx223_18, hx223_19, hx223_20, hx223_21, hx223_22, hx223_23, hx223_24, hx223_25, hx223_26, hx223_27, hx223_28, hx223_29, hx223_30, hx223_31, hl223_9, hi223_9, hl223_10, hi223_10, hl223_11, hi223_11, hl223_12, hi223_12, hl223_17, hi223_17, hl223_18, hi223_18, hl223_19, hi223_19, hl223_20, hi223_20, hl223_21, hi223_21, hl223_22, hi223_22, hl223_28, hi223_28⟩ := at_T41 HR1.out x17_2 p223 q223
              have hw223_31 := hx223_31
              have hw223_30 := hx223_30
              have hw223_29 := hx223_29
              have hw223_28 := hx223_28
              have hw223_27 := hx223_27
              have hw223_26 := hx223_26
              have hw223_25 := hx223_25
              have hw223_24 := hx223_24
              have hw223_23 := hx223_23
              have hw223_22 := hx223_22
              have hw223_21 := hx223_21
              have hw223_20 := hx223_20
              have hw223_19 := hx223_19
              have hw223_18 := hx223_18
              have hw223_17 := hx223_17
              have hw223_16 := hx223_16
              have hw223_15 := hx223_15
              have hw223_14 := hx223_14
              have hw223_13 := hx223_13
              have hw223_12 := hx223_12
              have hw223_11 := hx223_11
              have hw223_10 := hx223_10
              have hw223_9 := hx223_9
              have hw223_8 := hx223_8
              have hw223_7 := hx223_7
              have hw223_6 := hx223_6
              have hw223_5 := hx223_5
              have hw223_4 := hx223_4
              have hw223_3 := hx223_3
              have hw223_2 := hx223_2
              have hw223_1 := hx223_1
              have hw223_0 := hx223_0
              obtain rfl : ad222 = ad223 := (by injection e223)
              replace hx223_0 := s_m HB.out hx223_0
              replace hx223_1 := s_m HB.out hx223_1
              replace hx223_2 := s_m HB.out hx223_2
              replace hx223_3 := s_m HB.out hx223_3
              replace hx223_4 := s_m HB.out hx223_4
              replace hx223_5 := s_m HB.out hx223_5
              replace hx223_6 := s_m HB.out hx223_6
              replace hx223_7 := s_m HB.out hx223_7
              replace hx223_8 := s_m HB.out hx223_8
              replace hx223_9 := s_m HB.out hx223_9
              replace hx223_10 := s_m HB.out hx223_10
              replace hx223_11 := s_m HB.out hx223_11
              replace hx223_12 := s_m HB.out hx223_12
              replace hx223_13 := s_m HB.out hx223_13
              replace hx223_14 := s_m HB.out hx223_14
              replace hx223_15 := s_m HB.out hx223_15
              replace hx223_16 := s_m HB.out hx223_16
              replace hx223_17 := s_m HB.out hx223_17
              replace hx223_18 := s_m HB.out hx223_18
              replace hx223_19 := s_m HB.out hx223_19
              replace hx223_20 := s_m HB.out hx223_20
              replace hx223_21 := s_m HB.out hx223_21
              replace hx223_22 := s_m HB.out hx223_22
              replace hx223_23 := s_m HB.out hx223_23
              replace hx223_24 := s_m HB.out hx223_24
              replace hx223_25 := s_m HB.out hx223_25
              replace hx223_26 := s_m HB.out hx223_26
              replace hx223_27 := s_m HB.out hx223_27
              replace hx223_28 := s_m HB.out hx223_28
              replace hx223_29 := s_m HB.out hx223_29
              replace hx223_30 := s_m HB.out hx223_30
              replace hx223_31 := s_m HB.out hx223_31
              have HR223_9 := s_a hi223_9
              have HC223_9 := s_a hl223_9
              clear hi223_9 hl223_9
              have HR223_10 := s_a hi223_10
              have HC223_10 := s_a hl223_10
              clear hi223_10 hl223_10
              have HR223_11 := s_a hi223_11
              have HC223_11 := s_a hl223_11
              clear hi223_11 hl223_11
              have HR223_12 := s_a hi223_12
              have HC223_12 := s_a hl223_12
              clear hi223_12 hl223_12
              have HR223_17 := s_a hi223_17
              have HC223_17 := s_a hl223_17
              clear hi223_17 hl223_17
              have HR223_18 := s_a hi223_18
              have HC223_18 := s_a hl223_18
              clear hi223_18 hl223_18
              have HR223_19 := s_a hi223_19
              have HC223_19 := s_a hl223_19
              clear hi223_19 hl223_19
              have HR223_20 := s_a hi223_20
              have HC223_20 := s_a hl223_20
              clear hi223_20 hl223_20
              have HR223_21 := s_a hi223_21
              have HC223_21 := s_a hl223_21
              clear hi223_21 hl223_21
              have HR223_22 := s_a hi223_22
              have HC223_22 := s_a hl223_22
              clear hi223_22 hl223_22
              have HR223_28 := s_a hi223_28
              have HC223_28 := s_a hl223_28
              clear hi223_28 hl223_28
              replace p223 := eq_true p223
              replace q223 := eq_true q223
              refine start_ (n := 16) (S := fun w' => w'.cell? (ad222.add ((x12_1).toNat * 32)) = some (.string ((rd_T41 l1 x12_1).f0.f0)) ∧ w'.cell? ⟨(ad222.add ((x12_1).toNat * 32)).block, (ad222.add ((x12_1).toNat * 32)).off + 1, none⟩ = some (.string ((rd_T41 l1 x12_1).f0.f1)) ∧ w'.cell? ⟨(ad222.add ((x12_1).toNat * 32)).block, (ad222.add ((x12_1).toNat * 32)).off + 2, none⟩ = some (.string ((rd_T41 l1 x12_1).f0.f2)) ∧ w'.cell? ⟨(ad222.add ((x12_1).toNat * 32)).block, (ad222.add ((x12_1).toNat * 32)).off + 3, none⟩ = some (.int .i64 ((rd_T41 l1 x12_1).f0.f3)) ∧ w'.cell? ⟨(ad222.add ((x12_1).toNat * 32)).block, (ad222.add ((x12_1).toNat * 32)).off + 4, none⟩ = some (.int .i64 ((rd_T41 l1 x12_1).f0.f4)) ∧ w'.cell? ⟨(ad222.add ((x12_1).toNat * 32)).block, (ad222.add ((x12_1).toNat * 32)).off + 5, none⟩ = some (.int .i64 ((rd_T41 l1 x12_1).f0.f5)) ∧ w'.cell? ⟨(ad222.add ((x12_1).toNat * 32)).block, (ad222.add ((x12_1).toNat * 32)).off + 6, none⟩ = some (.int .i64 ((rd_T41 l1 x12_1).f0.f6)) ∧ w'.cell? ⟨(ad222.add ((x12_1).toNat * 32)).block, (ad222.add ((x12_1).toNat * 32)).off + 7, none⟩ = some (.bool ((rd_T41 l1 x12_1).f0.f7)) ∧ w'.cell? ⟨(ad222.add ((x12_1).toNat * 32)).block, (ad222.add ((x12_1).toNat * 32)).off + 8, none⟩ = some (.int .i64 ((rd_T41 l1 x12_1).f0.f8)) ∧ w'.cell? ⟨(ad222.add ((x12_1).toNat * 32)).block, (ad222.add ((x12_1).toNat * 32)).off + 9, none⟩ = some (.slice A222_9 ((rd_T41 l1 x12_1).f0.f9).length c222_9) ∧ w'.cell? ⟨(ad222.add ((x12_1).toNat * 32)).block, (ad222.add ((x12_1).toNat * 32)).off + 10, none⟩ = some (.slice A222_10 ((rd_T41 l1 x12_1).f0.f10).length c222_10) ∧ w'.cell? ⟨(ad222.add ((x12_1).toNat * 32)).block, (ad222.add ((x12_1).toNat * 32)).off + 11, none⟩ = some (.slice A222_11 ((rd_T41 l1 x12_1).f0.f11).length c222_11) ∧ w'.cell? ⟨(ad222.add ((x12_1).toNat * 32)).block, (ad222.add ((x12_1).toNat * 32)).off + 12, none⟩ = some (.slice A222_12 ((rd_T41 l1 x12_1).f0.f12).length c222_12) ∧ w'.cell? ⟨(ad222.add ((x12_1).toNat * 32)).block, (ad222.add ((x12_1).toNat * 32)).off + 13, none⟩ = some (.string ((rd_T41 l1 x12_1).f1.f0)) ∧ w'.cell? ⟨(ad222.add ((x12_1).toNat * 32)).block, (ad222.add ((x12_1).toNat * 32)).off + 14, none⟩ = some (.int .i64 ((rd_T41 l1 x12_1).f1.f1)) ∧ w'.cell? ⟨(ad222.add ((x12_1).toNat * 32)).block, (ad222.add ((x12_1).toNat * 32)).off + 15, none⟩ = some (.int .i64 ((rd_T41 l1 x12_1).f1.f2)) ∧ w'.cell? ⟨(ad222.add ((x12_1).toNat * 32)).block, (ad222.add ((x12_1).toNat * 32)).off + 16, none⟩ = some (.int .i64 ((rd_T41 l1 x12_1).f1.f3)) ∧ w'.cell? ⟨(ad222.add ((x12_1).toNat * 32)).block, (ad222.add ((x12_1).toNat * 32)).off + 17, none⟩ = some (.slice A222_17 ((rd_T41 l1 x12_1).f1.f4).length c222_17) ∧ w'.cell? ⟨(ad222.add ((x12_1).toNat * 32)).block, (ad222.add ((x12_1).toNat * 32)).off + 18, none⟩ = some (.slice A222_18 ((rd_T41 l1 x12_1).f1.f5).length c222_18) ∧ w'.cell? ⟨(ad222.add ((x12_1).toNat * 32)).block, (ad222.add ((x12_1).toNat * 32)).off + 19, none⟩ = some (.slice A222_19 ((rd_T41 l1 x12_1).f1.f6).length c222_19) ∧ w'.cell? ⟨(ad222.add ((x12_1).toNat * 32)).block, (ad222.add ((x12_1).toNat * 32)).off + 20, none⟩ = some (.slice A222_20 ((rd_T41 l1 x12_1).f1.f7).length c222_20) ∧ w'.cell? ⟨(ad222.add ((x12_1).toNat * 32)).block, (ad222.add ((x12_1).toNat * 32)).off + 21, none⟩ = some (.slice A222_21 ((rd_T41 l1 x12_1).f1.f8).length c222_21) ∧ w'.cell? ⟨(ad222.add ((x12_1).toNat * 32)).block, (ad222.add ((x12_1).toNat * 32)).off + 22, none⟩ = some (.slice A222_22 ((rd_T41 l1 x12_1).f1.f9).length c222_22) ∧ w'.cell? ⟨(ad222.add ((x12_1).toNat * 32)).block, (ad222.add ((x12_1).toNat * 32)).off + 23, none⟩ = some (.int .i64 ((rd_T41 l1 x12_1).f2.f0)) ∧ w'.cell? ⟨(ad222.add ((x12_1).toNat * 32)).block, (ad222.add ((x12_1).toNat * 32)).off + 24, none⟩ = some (.bool ((rd_T41 l1 x12_1).f2.f1)) ∧ w'.cell? ⟨(ad222.add ((x12_1).toNat * 32)).block, (ad222.add ((x12_1).toNat * 32)).off + 25, none⟩ = some (.int .i64 ((rd_T41 l1 x12_1).f2.f2)) ∧ w'.cell? ⟨(ad222.add ((x12_1).toNat * 32)).block, (ad222.add ((x12_1).toNat * 32)).off + 26, none⟩ = some (.int .i64 ((rd_T41 l1 x12_1).f2.f3)) ∧ w'.cell? ⟨(ad222.add ((x12_1).toNat * 32)).block, (ad222.add ((x12_1).toNat * 32)).off + 27, none⟩ = some (.int .i64 ((rd_T41 l1 x12_1).f2.f4)) ∧ w'.cell? ⟨(ad222.add ((x12_1).toNat * 32)).block, (ad222.add ((x12_1).toNat * 32)).off + 28, none⟩ = some (.slice A222_28 ((rd_T41 l1 x12_1).f2.f5).length c222_28) ∧ w'.cell? ⟨(ad222.add ((x12_1).toNat * 32)).block, (ad222.add ((x12_1).toNat * 32)).off + 29, none⟩ = some (.int .i64 ((rd_T41 l1 x12_1).f2.f6)) ∧ w'.cell? ⟨(ad222.add ((x12_1).toNat * 32)).block, (ad222.add ((x12_1).toNat * 32)).off + 30, none⟩ = some (.string ((rd_T41 l1 x12_1).f2.f7)) ∧ w'.cell? ⟨(ad222.add ((x12_1).toNat * 32)).block, (ad222.add ((x12_1).toNat * 32)).off + 31, none⟩ = some (.string ((rd_T41 l1 x12_1).f2.f8)) ∧ w'.cell? (ad222.add ((x17_2).toNat * 32)) = some (.string ((rd_T41 l1 x17_2).f0.f0)) ∧ w'.cell? ⟨(ad222.add ((x17_2).toNat * 32)).block, (ad222.add ((x17_2).toNat * 32)).off + 1, none⟩ = some (.string ((rd_T41 l1 x17_2).f0.f1)) ∧ w'.cell? ⟨(ad222.add ((x17_2).toNat * 32)).block, (ad222.add ((x17_2).toNat * 32)).off + 2, none⟩ = some (.string ((rd_T41 l1 x17_2).f0.f2)) ∧ w'.cell? ⟨(ad222.add ((x17_2).toNat * 32)).block, (ad222.add ((x17_2).toNat * 32)).off + 3, none⟩ = some (.int .i64 ((rd_T41 l1 x17_2).f0.f3)) ∧ w'.cell? ⟨(ad222.add ((x17_2).toNat * 32)).block, (ad222.add ((x17_2).toNat * 32)).off + 4, none⟩ = some (.int .i64 ((rd_T41 l1 x17_2).f0.f4)) ∧ w'.cell? ⟨(ad222.add ((x17_2).toNat * 32)).block, (ad222.add ((x17_2).toNat * 32)).off + 5, none⟩ = some (.int .i64 ((rd_T41 l1 x17_2).f0.f5)) ∧ w'.cell? ⟨(ad222.add ((x17_2).toNat * 32)).block, (ad222.add ((x17_2).toNat * 32)).off + 6, none⟩ = some (.int .i64 ((rd_T41 l1 x17_2).f0.f6)) ∧ w'.cell? ⟨(ad222.add ((x17_2).toNat * 32)).block, (ad222.add ((x17_2).toNat * 32)).off + 7, none⟩ = some (.bool ((rd_T41 l1 x17_2).f0.f7)) ∧ w'.cell? ⟨(ad222.add ((x17_2).toNat * 32)).block, (ad222.add ((x17_2).toNat * 32)).off + 8, none⟩ = some (.int .i64 ((rd_T41 l1 x17_2).f0.f8)) ∧ w'.cell? ⟨(ad222.add ((x17_2).toNat * 32)).block, (ad222.add ((x17_2).toNat * 32)).off + 9, none⟩ = some (.slice A223_9 ((rd_T41 l1 x17_2).f0.f9).length c223_9) ∧ w'.cell? ⟨(ad222.add ((x17_2).toNat * 32)).block, (ad222.add ((x17_2).toNat * 32)).off + 10, none⟩ = some (.slice A223_10 ((rd_T41 l1 x17_2).f0.f10).length c223_10) ∧ w'.cell? ⟨(ad222.add ((x17_2).toNat * 32)).block, (ad222.add ((x17_2).toNat * 32)).off + 11, none⟩ = some (.slice A223_11 ((rd_T41 l1 x17_2).f0.f11).length c223_11) ∧ w'.cell? ⟨(ad222.add ((x17_2).toNat * 32)).block, (ad222.add ((x17_2).toNat * 32)).off + 12, none⟩ = some (.slice A223_12 ((rd_T41 l1 x17_2).f0.f12).length c223_12) ∧ w'.cell? ⟨(ad222.add ((x17_2).toNat * 32)).block, (ad222.add ((x17_2).toNat * 32)).off + 13, none⟩ = some (.string ((rd_T41 l1 x17_2).f1.f0)) ∧ w'.cell? ⟨(ad222.add ((x17_2).toNat * 32)).block, (ad222.add ((x17_2).toNat * 32)).off + 14, none⟩ = some (.int .i64 ((rd_T41 l1 x17_2).f1.f1)) ∧ w'.cell? ⟨(ad222.add ((x17_2).toNat * 32)).block, (ad222.add ((x17_2).toNat * 32)).off + 15, none⟩ = some (.int .i64 ((rd_T41 l1 x17_2).f1.f2)) ∧ w'.cell? ⟨(ad222.add ((x17_2).toNat * 32)).block, (ad222.add ((x17_2).toNat * 32)).off + 16, none⟩ = some (.int .i64 ((rd_T41 l1 x17_2).f1.f3)) ∧ w'.cell? ⟨(ad222.add ((x17_2).toNat * 32)).block, (ad222.add ((x17_2).toNat * 32)).off + 17, none⟩ = some (.slice A223_17 ((rd_T41 l1 x17_2).f1.f4).length c223_17) ∧ w'.cell? ⟨(ad222.add ((x17_2).toNat * 32)).block, (ad222.add ((x17_2).toNat * 32)).off + 18, none⟩ = some (.slice A223_18 ((rd_T41 l1 x17_2).f1.f5).length c223_18) ∧ w'.cell? ⟨(ad222.add ((x17_2).toNat * 32)).block, (ad222.add ((x17_2).toNat * 32)).off + 19, none⟩ = some (.slice A223_19 ((rd_T41 l1 x17_2).f1.f6).length c223_19) ∧ w'.cell? ⟨(ad222.add ((x17_2).toNat * 32)).block, (ad222.add ((x17_2).toNat * 32)).off + 20, none⟩ = some (.slice A223_20 ((rd_T41 l1 x17_2).f1.f7).length c223_20) ∧ w'.cell? ⟨(ad222.add ((x17_2).toNat * 32)).block, (ad222.add ((x17_2).toNat * 32)).off + 21, none⟩ = some (.slice A223_21 ((rd_T41 l1 x17_2).f1.f8).length c223_21) ∧ w'.cell? ⟨(ad222.add ((x17_2).toNat * 32)).block, (ad222.add ((x17_2).toNat * 32)).off + 22, none⟩ = some (.slice A223_22 ((rd_T41 l1 x17_2).f1.f9).length c223_22) ∧ w'.cell? ⟨(ad222.add ((x17_2).toNat * 32)).block, (ad222.add ((x17_2).toNat * 32)).off + 23, none⟩ = some (.int .i64 ((rd_T41 l1 x17_2).f2.f0)) ∧ w'.cell? ⟨(ad222.add ((x17_2).toNat * 32)).block, (ad222.add ((x17_2).toNat * 32)).off + 24, none⟩ = some (.bool ((rd_T41 l1 x17_2).f2.f1)) ∧ w'.cell? ⟨(ad222.add ((x17_2).toNat * 32)).block, (ad222.add ((x17_2).toNat * 32)).off + 25, none⟩ = some (.int .i64 ((rd_T41 l1 x17_2).f2.f2)) ∧ w'.cell? ⟨(ad222.add ((x17_2).toNat * 32)).block, (ad222.add ((x17_2).toNat * 32)).off + 26, none⟩ = some (.int .i64 ((rd_T41 l1 x17_2).f2.f3)) ∧ w'.cell? ⟨(ad222.add ((x17_2).toNat * 32)).block, (ad222.add ((x17_2).toNat * 32)).off + 27, none⟩ = some (.int .i64 ((rd_T41 l1 x17_2).f2.f4)) ∧ w'.cell? ⟨(ad222.add ((x17_2).toNat * 32)).block, (ad222.add ((x17_2).toNat * 32)).off + 28, none⟩ = some (.slice A223_28 ((rd_T41 l1 x17_2).f2.f5).length c223_28) ∧ w'.cell? ⟨(ad222.add ((x17_2).toNat * 32)).block, (ad222.add ((x17_2).toNat * 32)).off + 29, none⟩ = some (.int .i64 ((rd_T41 l1 x17_2).f2.f6)) ∧ w'.cell? ⟨(ad222.add ((x17_2).toNat * 32)).block, (ad222.add ((x17_2).toNat * 32)).off + 30, none⟩ = some (.string ((rd_T41 l1 x17_2).f2.f7)) ∧ w'.cell? ⟨(ad222.add ((x17_2).toNat * 32)).block, (ad222.add ((x17_2).toNat * 32)).off + 31, none⟩ = some (.string ((rd_T41 l1 x17_2).f2.f8))) (ds := []) (bz 16 0) (by kernel_rfl) rfl rfl ⟨(s_m HB.out hw222_0), (s_m HB.out hw222_1), (s_m HB.out hw222_2), (s_m HB.out hw222_3), (s_m HB.out hw222_4), (s_m HB.out hw222_5), (s_m HB.out hw222_6), (s_m HB.out hw222_7), (s_m HB.out hw222_8), (s_m HB.out hw222_9), (s_m HB.out hw222_10), (s_m HB.out hw222_11), (s_m HB.out hw222_12), (s_m HB.out hw222_13), (s_m HB.out hw222_14), (s_m HB.out hw222_15), (s_m HB.out hw222_16), (s_m HB.out hw222_17), (s_m HB.out hw222_18), (s_m HB.out hw222_19), (s_m HB.out hw222_20), (s_m HB.out hw222_21), (s_m HB.out hw222_22), (s_m HB.out hw222_23), (s_m HB.out hw222_24), (s_m HB.out hw222_25), (s_m HB.out hw222_26), (s_m HB.out hw222_27), (s_m HB.out hw222_28), (s_m HB.out hw222_29), (s_m HB.out hw222_30), (s_m HB.out hw222_31), (s_m HB.out hw223_0), (s_m HB.out hw223_1), (s_m HB.out hw223_2), (s_m HB.out hw223_3), (s_m HB.out hw223_4), (s_m HB.out hw223_5), (s_m HB.out hw223_6), (s_m HB.out hw223_7), (s_m HB.out hw223_8), (s_m HB.out hw223_9), (s_m HB.out hw223_10), (s_m HB.out hw223_11), (s_m HB.out hw223_12), (s_m HB.out hw223_13), (s_m HB.out hw223_14), (s_m HB.out hw223_15), (s_m HB.out hw223_16), (s_m HB.out hw223_17), (s_m HB.out hw223_18), (s_m HB.out hw223_19), (s_m HB.out hw223_20), (s_m HB.out hw223_21), (s_m HB.out hw223_22), (s_m HB.out hw223_23), (s_m HB.out hw223_24), (s_m HB.out hw223_25), (s_m HB.out hw223_26), (s_m HB.out hw223_27), (s_m HB.out hw223_28), (s_m HB.out hw223_29), (s_m HB.out hw223_30), (s_m HB.out hw223_31)⟩ (fun hHeld => ?_); refine with_tabW netpolicy_Reach.tab8 netpolicy_Reach.bits8 (fun HT_ HW_ => ?_)
              generalize wr.drew = w15 at HO_7 HB HR222_10 HR222_11 HR222_12 HR222_17 HR222_18 HR222_19 HR222_20 HR222_21 HR222_22 HR222_28 HR222_9 HR223_10 HR223_11 HR223_12 HR223_17 HR223_18 HR223_19 HR223_20 HR223_21 HR223_22 HR223_28 HR223_9 hx222_0 hx222_1 hx222_10 hx222_11 hx222_12 hx222_13 hx222_14 hx222_15 hx222_16 hx222_17 hx222_18 hx222_19 hx222_2 hx222_20 hx222_21 hx222_22 hx222_23 hx222_24 hx222_25 hx222_26 hx222_27 hx222_28 hx222_29 hx222_3 hx222_30 hx222_31 hx222_4 hx222_5 hx222_6 hx222_7 hx222_8 hx222_9 hx223_0 hx223_1 hx223_10 hx223_11 hx223_12 hx223_13 hx223_14 hx223_15 hx223_16 hx223_17 hx223_18 hx223_19 hx223_2 hx223_20 hx223_21 hx223_22 hx223_23 hx223_24 hx223_25 hx223_26 hx223_27 hx223_28 hx223_29 hx223_3 hx223_30 hx223_31 hx223_4 hx223_5 hx223_6 hx223_7 hx223_8 hx223_9 hHeld ⊢
              refine q_p 0 (some 20) (bz 16 1) (any_of HT_.out (by kernel_rfl)) (v := ?_) ?_ (a' := ?_) ?_ ?_; rotate_left 2
              ·intro w'; go_simp; with_reducible rfl
              ·simp only [Act.put, List.setIfInBounds_toArray, List.set_cons_zero, List.set_cons_succ, i64_w, i32_w]; rfl
              refine q_p 1 (some 21) (bz 16 3) (any_of HT_.out (by kernel_rfl)) (v := ?_) ?_ (a' := ?_) ?_ ?_; rotate_left 2
              ·intro w'; go_simp; with_reducible rfl
              ·simp only [Act.put, List.setIfInBounds_toArray, List.set_cons_zero, List.set_cons_succ, i64_w, i32_w]; rfl
              refine q_p 2 (some 22) (bz 16 7) (any_of HT_.out (by kernel_rfl)) (v := ?_) ?_ (a' := ?_) ?_ ?_; rotate_left 2
              ·intro w'; go_simp; with_reducible rfl
              ·simp only [Act.put, List.setIfInBounds_toArray, List.set_cons_zero, List.set_cons_succ, i64_w, i32_w]; rfl
              refine q_p 3 (some 23) (bz 16 15) (any_of HT_.out (by kernel_rfl)) (v := ?_) ?_ (a' := ?_) ?_ ?_; rotate_left 2
              ·intro w'; go_simp; with_reducible rfl
              ·simp only [Act.put, List.setIfInBounds_toArray, List.set_cons_zero, List.set_cons_succ, i64_w, i32_w]; rfl
              refine q_p 4 (some 24) (bz 16 31) (any_of HT_.out (by kernel_rfl)) (v := ?_) ?_ (a' := ?_) ?_ ?_; rotate_left 2
              ·intro w'; go_simp; with_reducible rfl
              ·simp only [Act.put, List.setIfInBounds_toArray, List.set_cons_zero, List.set_cons_succ, i64_w, i32_w]; rfl
              refine q_p 5 (some 25) (bz 16 63) (any_of HT_.out (by kernel_rfl)) (v := ?_) ?_ (a' := ?_) ?_ ?_; rotate_left 2
              ·intro w'; go_simp; with_reducible rfl
              ·simp only [Act.put, List.setIfInBounds_toArray, List.set_cons_zero, List.set_cons_succ, i64_w, i32_w]; rfl
              refine q_p 6 (some 26) (bz 16 127) (any_of HT_.out (by kernel_rfl)) (v := ?_) ?_ (a' := ?_) ?_ ?_; rotate_left 2
              ·intro w'; go_simp; with_reducible rfl
              ·simp only [Act.put, List.setIfInBounds_toArray, List.set_cons_zero, List.set_cons_succ, i64_w, i32_w]; rfl
              refine q_p 7 (some 27) (bz 16 255) (any_of HT_.out (by kernel_rfl)) (v := ?_) ?_ (a' := ?_) ?_ ?_; rotate_left 2
              ·intro w'; go_simp; with_reducible rfl
              ·simp only [Act.put, List.setIfInBounds_toArray, List.set_cons_zero, List.set_cons_succ, i64_w, i32_w]; rfl
              refine q_p 9 (some 29) (bz 16 767) (any_of HT_.out (by kernel_rfl)) (v := ?_) ?_ (a' := ?_) ?_ ?_; rotate_left 2
              ·intro w'; go_simp; with_reducible rfl
              ·simp only [Act.put, List.setIfInBounds_toArray, List.set_cons_zero, List.set_cons_succ, i64_w, i32_w]; rfl
              refine q_p 10 (some 30) (bz 16 1791) (any_of HT_.out (by kernel_rfl)) (v := ?_) ?_ (a' := ?_) ?_ ?_; rotate_left 2
              ·intro w'; go_simp; with_reducible rfl
              ·simp only [Act.put, List.setIfInBounds_toArray, List.set_cons_zero, List.set_cons_succ, i64_w, i32_w]; rfl
              refine q_p 11 (some 31) (bz 16 3839) (any_of HT_.out (by kernel_rfl)) (v := ?_) ?_ (a' := ?_) ?_ ?_; rotate_left 2
              ·intro w'; go_simp; with_reducible rfl
              ·simp only [Act.put, List.setIfInBounds_toArray, List.set_cons_zero, List.set_cons_succ, i64_w, i32_w]; rfl
              refine q_p 13 (some 33) (bz 16 12031) (any_of HT_.out (by kernel_rfl)) (v := ?_) ?_ (a' := ?_) ?_ ?_; rotate_left 2
              ·intro w'; go_simp; with_reducible rfl
              ·simp only [Act.put, List.setIfInBounds_toArray, List.set_cons_zero, List.set_cons_succ, i64_w, i32_w]; rfl
              refine q_t 8 (some 28) (bz 16 12287) (take_ofW HT_.out HW_.out (by kernel_rfl)) hHeld (v := ?_) ?_ (a' := ?_) ?_ ?_; rotate_left 2
              ·rintro w' ⟨s0, s1, s2, s3, s4, s5, s6, s7, s8, s9, s10, s11, s12, s13, s14, s15, s16, s17, s18, s19, s20, s21, s22, s23, s24, s25, s26, s27, s28, s29, s30, s31, s32, s33, s34, s35, s36, s37, s38, s39, s40, s41, s42, s43, s44, s45, s46, s47, s48, s49, s50, s51, s52, s53, s54, s55, s56, s57, s58, s59, s60, s61, s62, s63⟩; (refine (s_ld rfl 41 (.tmp 27) ?_ _ ?_ _ _ (cells_at s0 (s_cc s1 (s_cc s2 (s_cc s3 (s_cc s4 (s_cc s5 (s_cc s6 (s_cc s7 (s_cc s8 (s_cc s9 (s_cc s10 (s_cc s11 (s_cc s12 (s_cc s13 (s_cc s14 (s_cc s15 (s_cc s16 (s_cc s17 (s_cc s18 (s_cc s19 (s_cc s20 (s_cc s21 (s_cc s22 (s_cc s23 (s_cc s24 (s_cc s25 (s_cc s26 (s_cc s27 (s_cc s28 (s_cc s29 (s_cc s30 (s_cc s31 s_cn)))))))))))))))))))))))))))))))) Try.underlying41 (by rfl) sz41).trans ?_ <;> first | (with_reducible rfl) | rfl)
              ·simp only [Act.put, List.setIfInBounds_toArray, List.set_cons_zero, List.set_cons_succ, i64_w, i32_w]; rfl
              refine q_t 12 (some 32) (bz 16 16383) (take_ofW HT_.out HW_.out (by kernel_rfl)) hHeld (v := ?_) ?_ (a' := ?_) ?_ ?_; rotate_left 2
              ·rintro w' ⟨s0, s1, s2, s3, s4, s5, s6, s7, s8, s9, s10, s11, s12, s13, s14, s15, s16, s17, s18, s19, s20, s21, s22, s23, s24, s25, s26, s27, s28, s29, s30, s31, s32, s33, s34, s35, s36, s37, s38, s39, s40, s41, s42, s43, s44, s45, s46, s47, s48, s49, s50, s51, s52, s53, s54, s55, s56, s57, s58, s59, s60, s61, s62, s63⟩; (refine (s_ld rfl 41 (.tmp 31) ?_ _ ?_ _ _ (cells_at s32 (s_cc s33 (s_cc s34 (s_cc s35 (s_cc s36 (s_cc s37 (s_cc s38 (s_cc s39 (s_cc s40 (s_cc s41 (s_cc s42 (s_cc s43 (s_cc s44 (s_cc s45 (s_cc s46 (s_cc s47 (s_cc s48 (s_cc s49 (s_cc s50 (s_cc s51 (s_cc s52 (s_cc s53 (s_cc s54 (s_cc s55 (s_cc s56 (s_cc s57 (s_cc s58 (s_cc s59 (s_cc s60 (s_cc s61 (s_cc s62 (s_cc s63 s_cn)))))))))))))))))))))))))))))))) Try.underlying41 (by rfl) sz41).trans ?_ <;> first | (with_reducible rfl) | rfl)
              ·simp only [Act.put, List.setIfInBounds_toArray, List.set_cons_zero, List.set_cons_succ, i64_w, i32_w]; rfl
              refine one_ (i := 14) (N := some 34) (bz 16 32767) rfl rfl (one_of HT_.out (by kernel_rfl)) (by decide) (fun K hK => ?_)
              refine goes_ Try.func11 (by kernel_rfl) rfl #[.slice A0 l0.length c0, .agg #[.string ((rd_T41 l1 x12_1).f0.f0), .string ((rd_T41 l1 x12_1).f0.f1), .string ((rd_T41 l1 x12_1).f0.f2), .int .i64 ((rd_T41 l1 x12_1).f0.f3), .int .i64 ((rd_T41 l1 x12_1).f0.f4), .int .i64 ((rd_T41 l1 x12_1).f0.f5), .int .i64 ((rd_T41 l1 x12_1).f0.f6), .bool ((rd_T41 l1 x12_1).f0.f7), .int .i64 ((rd_T41 l1 x12_1).f0.f8), .slice A222_9 ((rd_T41 l1 x12_1).f0.f9).length c222_9, .slice A222_10 ((rd_T41 l1 x12_1).f0.f10).length c222_10, .slice A222_11 ((rd_T41 l1 x12_1).f0.f11).length c222_11, .slice A222_12 ((rd_T41 l1 x12_1).f0.f12).length c222_12, .string ((rd_T41 l1 x12_1).f1.f0), .int .i64 ((rd_T41 l1 x12_1).f1.f1), .int .i64 ((rd_T41 l1 x12_1).f1.f2), .int .i64 ((rd_T41 l1 x12_1).f1.f3), .slice A222_17 ((rd_T41 l1 x12_1).f1.f4).length c222_17, .slice A222_18 ((rd_T41 l1 x12_1).f1.f5).length c222_18, .slice A222_19 ((rd_T41 l1 x12_1).f1.f6).length c222_19, .slice A222_20 ((rd_T41 l1 x12_1).f1.f7).length c222_20, .slice A222_21 ((rd_T41 l1 x12_1).f1.f8).length c222_21, .slice A222_22 ((rd_T41 l1 x12_1).f1.f9).length c222_22, .int .i64 ((rd_T41 l1 x12_1).f2.f0), .bool ((rd_T41 l1 x12_1).f2.f1), .int .i64 ((rd_T41 l1 x12_1).f2.f2), .int .i64 ((rd_T41 l1 x12_1).f2.f3), .int .i64 ((rd_T41 l1 x12_1).f2.f4), .slice A222_28 ((rd_T41 l1 x12_1).f2.f5).length c222_28, .int .i64 ((rd_T41 l1 x12_1).f2.f6), .string ((rd_T41 l1 x12_1).f2.f7), .string ((rd_T41 l1 x12_1).f2.f8)], .agg #[.string ((rd_T41 l1 x17_2).f0.f0), .string ((rd_T41 l1 x17_2).f0.f1), .string ((rd_T41 l1 x17_2).f0.f2), .int .i64 ((rd_T41 l1 x17_2).f0.f3), .int .i64 ((rd_T41 l1 x17_2).f0.f4), .int .i64 ((rd_T41 l1 x17_2).f0.f5), .int .i64 ((rd_T41 l1 x17_2).f0.f6), .bool ((rd_T41 l1 x17_2).f0.f7), .int .i64 ((rd_T41 l1 x17_2).f0.f8), .slice A223_9 ((rd_T41 l1 x17_2).f0.f9).length c223_9, .slice A223_10 ((rd_T41 l1 x17_2).f0.f10).length c223_10, .slice A223_11 ((rd_T41 l1 x17_2).f0.f11).length c223_11, .slice A223_12 ((rd_T41 l1 x17_2).f0.f12).length c223_12, .string ((rd_T41 l1 x17_2).f1.f0), .int .i64 ((rd_T41 l1 x17_2).f1.f1), .int .i64 ((rd_T41 l1 x17_2).f1.f2), .int .i64 ((rd_T41 l1 x17_2).f1.f3), .slice A223_17 ((rd_T41 l1 x17_2).f1.f4).length c223_17, .slice A223_18 ((rd_T41 l1 x17_2).f1.f5).length c223_18, .slice A223_19 ((rd_T41 l1 x17_2).f1.f6).length c223_19, .slice A223_20 ((rd_T41 l1 x17_2).f1.f7).length c223_20, .slice A223_21 ((rd_T41 l1 x17_2).f1.f8).length c223_21, .slice A223_22 ((rd_T41 l1 x17_2).f1.f9).length c223_22, .int .i64 ((rd_T41 l1 x17_2).f2.f0), .bool ((rd_T41 l1 x17_2).f2.f1), .int .i64 ((rd_T41 l1 x17_2).f2.f2), .int .i64 ((rd_T41 l1 x17_2).f2.f3), .int .i64 ((rd_T41 l1 x17_2).f2.f4), .slice A223_28 ((rd_T41 l1 x17_2).f2.f5).length c223_28, .int .i64 ((rd_T41 l1 x17_2).f2.f6), .string ((rd_T41 l1 x17_2).f2.f7), .string ((rd_T41 l1 x17_2).f2.f8)], .int .i64 a2] (by rfl) rfl rfl (by (try simp only [List.map_toArray, List.map_cons, List.map_nil]); first | done | rfl | (simp only [List.length_drop, List.length_take]; rfl)) ?_
              with_reducible refine (netpolicy_Allowed.calls k2 _ _ _ _ _ _ _ _ _ _ _ _ _ _ _ _ _ _ _ _ _ _ _ _ _ _ _ _ _ _ _ _ _ _ _ _ _ _ _ _ _ _ _ _ _ _ _ _ _ _ _ _ _ _ _ _ _ _ _ _ _ _ _ _ _ _ _ _ _ _ _ _ _ _ _ _ _ _ _ _ _ _ _ _ _ _ _ _ _ _ _ _ _ _ _ _ _ _ _ _ _ _ _ _ _ _ _ _ _ _ _ _ _ _ ?side1 ?side2 ?side3 ?side4 ?side5 ?side6 ?side7 ?side8 ?side9 ?side10 ?side11 ?side12 ?side13 ?side14 ?side15 ?side16 ?side17 ?side18 ?side19 ?side20 ?side21 ?side22 ?side23 ?side24 ?side25 ?side26 ?side27 ?side28 ?side29 ?side30 ?side31 ?side32 ?side33 ?side34 ?side35 ?side36 ?side37 ?side38 ?side39 ?side40 ?side41 ?side42 ?side43 ?side44 ?side45 ?side46 A12.out).mono ?_
              (case side1 => exact s_D HR0.out HB.out)
              (case side2 => exact HC0.out)
              (case side3 => exact s_D HR222_9.out HB.out)
              (case side4 => exact HC222_9.out)
              (case side5 => exact s_D HR222_10.out HB.out)
              (case side6 => exact HC222_10.out)
              (case side7 => exact s_D HR222_11.out HB.out)
              (case side8 => exact HC222_11.out)
              (case side9 => exact s_D HR222_12.out HB.out)
              (case side10 => exact HC222_12.out)
              (case side11 => exact s_D HR222_17.out HB.out)
              (case side12 => exact HC222_17.out)
              (case side13 => exact s_D HR222_18.out HB.out)
              (case side14 => exact HC222_18.out)
              (case side15 => exact s_D HR222_19.out HB.out)
              (case side16 => exact HC222_19.out)
              (case side17 => exact s_D HR222_20.out HB.out)
              (case side18 => exact HC222_20.out)
              (case side19 => exact s_D HR222_21.out HB.out)
              (case side20 => exact HC222_21.out)
              (case side21 => exact s_D HR222_22.out HB.out)
              (case side22 => exact HC222_22.out)
              (case side23 => exact s_D HR222_28.out HB.out)
              (case side24 => exact HC222_28.out)
              (case side25 => exact s_D HR223_9.out HB.out)
              (case side26 => exact HC223_9.out)
              (case side27 => exact s_D HR223_10.out HB.out)
              (case side28 => exact HC223_10.out)
              (case side29 => exact s_D HR223_11.out HB.out)
              (case side30 => exact HC223_11.out)
              (case side31 => exact s_D HR223_12.out HB.out)
              (case side32 => exact HC223_12.out)
              (case side33 => exact s_D HR223_17.out HB.out)
              (case side34 => exact HC223_17.out)
              (case side35 => exact s_D HR223_18.out HB.out)
              (case side36 => exact HC223_18.out)
              (case side37 => exact s_D HR223_19.out HB.out)
              (case side38 => exact HC223_19.out)
              (case side39 => exact s_D HR223_20.out HB.out)
              (case side40 => exact HC223_20.out)
              (case side41 => exact s_D HR223_21.out HB.out)
              (case side42 => exact HC223_21.out)
              (case side43 => exact s_D HR223_22.out HB.out)
              (case side44 => exact HC223_22.out)
              (case side45 => exact s_D HR223_28.out HB.out)
              (case side46 => exact HC223_28.out)
              rintro e w16 ⟨rfl, hb⟩
              refine ⟨_, rfl, ?_⟩
              replace HO_7 := s_a (Kd.R_below (by exact s_R (HO_7.out)) hb)
              replace HB := s_a (below_step (by exact s_b HB.out) hb)
              (try clear hb)
              refine hK.out _ _ ⟨(s_m HB.out hw222_0), (s_m HB.out hw222_1), (s_m HB.out hw222_2), (s_m HB.out hw222_3), (s_m HB.out hw222_4), (s_m HB.out hw222_5), (s_m HB.out hw222_6), (s_m HB.out hw222_7), (s_m HB.out hw222_8), (s_m HB.out hw222_9), (s_m HB.out hw222_10), (s_m HB.out hw222_11), (s_m HB.out hw222_12), (s_m HB.out hw222_13), (s_m HB.out hw222_14), (s_m HB.out hw222_15), (s_m HB.out hw222_16), (s_m HB.out hw222_17), (s_m HB.out hw222_18), (s_m HB.out hw222_19), (s_m HB.out hw222_20), (s_m HB.out hw222_21), (s_m HB.out hw222_22), (s_m HB.out hw222_23), (s_m HB.out hw222_24), (s_m HB.out hw222_25), (s_m HB.out hw222_26), (s_m HB.out hw222_27), (s_m HB.out hw222_28), (s_m HB.out hw222_29), (s_m HB.out hw222_30), (s_m HB.out hw222_31), (s_m HB.out hw223_0), (s_m HB.out hw223_1), (s_m HB.out hw223_2), (s_m HB.out hw223_3), (s_m HB.out hw223_4), (s_m HB.out hw223_5), (s_m HB.out hw223_6), (s_m HB.out hw223_7), (s_m HB.out hw223_8), (s_m HB.out hw223_9), (s_m HB.out hw223_10), (s_m HB.out hw223_11), (s_m HB.out hw223_12), (s_m HB.out hw223_13), (s_m HB.out hw223_14), (s_m HB.out hw223_15), (s_m HB.out hw223_16), (s_m HB.out hw223_17), (s_m HB.out hw223_18), (s_m HB.out hw223_19), (s_m HB.out hw223_20), (s_m HB.out hw223_21), (s_m HB.out hw223_22), (s_m HB.out hw223_23), (s_m HB.out hw223_24), (s_m HB.out hw223_25), (s_m HB.out hw223_26), (s_m HB.out hw223_27), (s_m HB.out hw223_28), (s_m HB.out hw223_29), (s_m HB.out hw223_30), (s_m HB.out hw223_31)⟩ (fun hHeld => ?_)
              clear hK K
              refine norm_ (a' := ?_) ?_ ?_
              rotate_left
              ·show Act.put _ (some 34) _ = _
               simp only [Act.put, List.setIfInBounds_toArray, List.set_cons_zero, List.set_cons_succ, i64_w, i32_w]
               rfl
              refine q_p 15 (some 35) (bz 16 65535) (any_of HT_.out (by kernel_rfl)) (v := ?_) ?_ (a' := ?_) ?_ ?_; rotate_left 2
              ·intro w'; go_simp; with_reducible rfl
              ·simp only [Act.put, List.setIfInBounds_toArray, List.set_cons_zero, List.set_cons_succ, i64_w, i32_w]; rfl
              refine done_ (done_of HT_.out (by kernel_rfl)) ?_
              try go_wp2_with (first | ((with_reducible refine gate_builtin (b := .append) (xs := #[.tmp 36, .tmp 40]) rfl ?_); at_builtin; refine Kd.R_append k48 (w0 := w) w.heap.size rfl (.tmp 36) (.tmp 40) 47 48 (.agg #[(.int .i64 0), (.int .i64 0)]) 16 rfl Try.underlying47 info48 rfl (by decide) (by omega) u7 x7_2 (⟨x12_1, x17_2⟩ : S48) [.int .i64 x12_1, .int .i64 x17_2] (fun _ => True) (fun _ => False) rfl rfl ?aP (fun _ hk => hk.elim) ?aF ?aO ?aB ?aS ?aL ?_; (case aP => exact k48_mkM _ _ _ (⟨x12_1, x17_2⟩ : S48)); (case aB => exact (by exact s_b HB.out)); (case aF => exact (fun _ _ => trivial)); (case aO => exact (by exact s_R (HO_7.out))); (case aS => exact (below_size (by exact s_b HB.out))); (case aL => have := LMc14.out; omega); intro v226 w17 ho hb hg hat; rw [← Ny225.out] at ho; have n0_ := s_a (ho); clear HO_7; have HO227 := n0_; clear n0_; replace HB := s_a (hb); clear ho hb hg hat))
              go_roundg k2
              case measure => have := HK1.out; have := HK2.out; omega
              case rel => exact ⟨(y225), (wrap64 (x17_2 + 1)), (by first | rfl | (simp; done) | (simp [*]; done)), H', ⟨by have := HK1.out; have := HK2.out; omega⟩, ⟨by exact s_R (HO227.out)⟩, ⟨by exact s_b HB.out⟩⟩
             ·rw [if_neg c14] at H
              exact absurd H (by simp)
            ·replace c13 := Bool.eq_false_iff.mpr c13
             subst c13
             (try rw [if_neg (show ¬ (false = true) by decide)] at H)
             have H' := s_a H
             clear H
             try go_wp2
             replace HO_7 := s_a (Kd.R_drew HO_7.out)
             replace HB := s_a (below_drew1 HB.out)
             have p222 : 0 ≤ (x12_1 : Int) := of_decide_eq_true (by first | (with_reducible assumption) | assumption)
             have q222 : x12_1 < (l1.length : Int) := of_decide_eq_true (by first | (with_reducible assumption) | assumption)
             obtain ⟨ad222, A222_9, c222_9, A222_10, c222_10, A222_11, c222_11, A222_12, c222_12, A222_17, c222_17, A222_18, c222_18, A222_19, c222_19, A222_20, c222_20, A222_21, c222_21, A222_22, c222_22, A222_28, c222_28, e222, hx222_0, hx222_1, hx222_2, hx222_3, hx222_4, hx222_5, hx222_6, hx222_7, hx222_8, hx222_9, hx222_10, hx222_11, hx222_12, hx222_13, hx222_14, hx222_15, hx222_16, hx222_17, hx222_18, hx222_19, hx222_20, hx222_21, hx222_22, hx222_23, hx222_24, hx222_25, hx222_26, hx222_27, hx222_28, hx222_29, hx222_30, hx222_31, hl222_9, hi222_9, hl222_10, hi222_10, hl222_11, hi222_11, hl222_12, hi222_12, hl222_17, hi222_17, hl222_18, hi222_18, hl222_19, hi222_19, hl222_20, hi222_20, hl222_21, hi222_21, hl222_22, hi222_22, hl222_28, hi222_28⟩ := at_T41 HR1.out x12_1 p222 q222
             have hw222_31 := hx222_31
             have hw222_30 := hx222_30
             have hw222_29 := hx222_29
             have hw222_28 := hx222_28
             have hw222_27 := hx222_27
             have hw222_26 := hx222_26
             have hw222_25 := hx222_25
             have hw222_24 := hx222_24
             have hw222_23 := hx222_23
             have hw222_22 := hx222_22
             have hw222_21 := hx222_21
             have hw222_20 := hx222_20
             have hw222_19 := hx222_19
             have hw222_18 := hx222_18
             have hw222_17 := hx222_17
             have hw222_16 := hx222_16
             have hw222_15 := hx222_15
             have hw222_14 := hx222_14
             have hw222_13 := hx222_13
             have hw222_12 := hx222_12
             have hw222_11 := hx222_11
             have hw222_10 := hx222_10
             have hw222_9 := hx222_9
             have hw222_8 := hx222_8
             have hw222_7 := hx222_7
             have hw222_6 := hx222_6
             have hw222_5 := hx222_5
             have hw222_4 := hx222_4
             have hw222_3 := hx222_3
             have hw222_2 := hx222_2
             have hw222_1 := hx222_1
             have hw222_0 := hx222_0
             cases e222
             replace hx222_0 := s_m HB.out hx222_0
             replace hx222_1 := s_m HB.out hx222_1
             replace hx222_2 := s_m HB.out hx222_2
             replace hx222_3 := s_m HB.out hx222_3
             replace hx222_4 := s_m HB.out hx222_4
             replace hx222_5 := s_m HB.out hx222_5
             replace hx222_6 := s_m HB.out hx222_6
             replace hx222_7 := s_m HB.out hx222_7
             replace hx222_8 := s_m HB.out hx222_8
             replace hx222_9 := s_m HB.out hx222_9
             replace hx222_10 := s_m HB.out hx222_10
             replace hx222_11 := s_m HB.out hx222_11
             replace hx222_12 := s_m HB.out hx222_12
             replace hx222_13 := s_m HB.out hx222_13
             replace hx222_14 := s_m HB.out hx222_14
             replace hx222_15 := s_m HB.out hx222_15
             replace hx222_16 := s_m HB.out hx222_16
             replace hx222_17 := s_m HB.out hx222_17
             replace hx222_18 := s_m HB.out hx222_18
             replace hx222_19 := s_m HB.out hx222_19
             replace hx222_20 := s_m HB.out hx222_20
             replace hx222_21 := s_m HB.out hx222_21
             replace hx222_22 := s_m HB.out hx222_22
             replace hx222_23 := s_m HB.out hx222_23
             replace hx222_24 := s_m HB.out hx222_24
             replace hx222_25 := s_m HB.out hx222_25
             replace hx222_26 := s_m HB.out hx222_26
             replace hx222_27 := s_m HB.out hx222_27
             replace hx222_28 := s_m HB.out hx222_28
             replace hx222_29 := s_m HB.out hx222_29
             replace hx222_30 := s_m HB.out hx222_30
             replace hx222_31 := s_m HB.out hx222_31
             have HR222_9 := s_a hi222_9
             have HC222_9 := s_a hl222_9
             clear hi222_9 hl222_9
             have HR222_10 := s_a hi222_10
             have HC222_10 := s_a hl222_10
             clear hi222_10 hl222_10
             have HR222_11 := s_a hi222_11
             have HC222_11 := s_a hl222_11
             clear hi222_11 hl222_11
             have HR222_12 := s_a hi222_12
             have HC222_12 := s_a hl222_12
             clear hi222_12 hl222_12
             have HR222_17 := s_a hi222_17
             have HC222_17 := s_a hl222_17
             clear hi222_17 hl222_17
             have HR222_18 := s_a hi222_18
             have HC222_18 := s_a hl222_18
             clear hi222_18 hl222_18
             have HR222_19 := s_a hi222_19
             have HC222_19 := s_a hl222_19
             clear hi222_19 hl222_19
             have HR222_20 := s_a hi222_20
             have HC222_20 := s_a hl222_20
             clear hi222_20 hl222_20
             have HR222_21 := s_a hi222_21
             have HC222_21 := s_a hl222_21
             clear hi222_21 hl222_21
             have HR222_22 := s_a hi222_22
             have HC222_22 := s_a hl222_22
             clear hi222_22 hl222_22
             have HR222_28 := s_a hi222_28
             have HC222_28 := s_a hl222_28
             clear hi222_28 hl222_28
             replace p222 := eq_true p222
             replace q222 := eq_true q222
             have p223 : 0 ≤ (x17_2 : Int) := of_decide_eq_true (by first | (with_reducible assumption) | assumption)
             have q223 : x17_2 < (l1.length : Int) := of_decide_eq_true (by first | (with_reducible assumption) | assumption)
             obtain ⟨ad223, A223_9, c223_9, A223_10, c223_10, A223_11, c223_11, A223_12, c223_12, A223_17, c223_17, A223_18, c223_18, A223_19, c223_19, A223_20, c223_20, A223_21, c223_21, A223_22, c223_22, A223_28, c223_28, e223, hx223_0, hx223_1, hx223_2, hx223_3, hx223_4, hx223_5, hx223_6, hx223_7, hx223_8, hx223_9, hx223_10, hx223_11, hx223_12, hx223_13, hx223_14, hx223_15, hx223_16, hx223_17, hx223_18, hx223_19, hx223_20, hx223_21, hx223_22, hx223_23, hx223_24, hx223_25, hx223_26, hx223_27, hx223_28, hx223_29, hx223_30, hx223_31, hl223_9, hi223_9, hl223_10, hi223_10, hl223_11, hi223_11, hl223_12, hi223_12, hl223_17, hi223_17, hl223_18, hi223_18, hl223_19, hi223_19, hl223_20, hi223_20, hl223_21, hi223_21, hl223_22, hi223_22, hl223_28, hi223_28⟩ := at_T41 HR1.out x17_2 p223 q223
             have hw223_31 := hx223_31
             have hw223_30 := hx223_30
             have hw223_29 := hx223_29
             have hw223_28 := hx223_28
             have hw223_27 := hx223_27
             have hw223_26 := hx223_26
             have hw223_25 := hx223_25
             have hw223_24 := hx223_24
             have hw223_23 := hx223_23
             have hw223_22 := hx223_22
             have hw223_21 := hx223_21
             have hw223_20 := hx223_20
             have hw223_19 := hx223_19
             have hw223_18 := hx223_18
             have hw223_17 := hx223_17
             have hw223_16 := hx223_16
             have hw223_15 := hx223_15
             have hw223_14 := hx223_14
             have hw223_13 := hx223_13
             have hw223_12 := hx223_12
             have hw223_11 := hx223_11
             have hw223_10 := hx223_10
             have hw223_9 := hx223_9
             have hw223_8 := hx223_8
             have hw223_7 := hx223_7
             have hw223_6 := hx223_6
             have hw223_5 := hx223_5
             have hw223_4 := hx223_4
             have hw223_3 := hx223_3
             have hw223_2 := hx223_2
             have hw223_1 := hx223_1
             have hw223_0 := hx223_0
             obtain rfl : ad222 = ad223 := (by injection e223)
             replace hx223_0 := s_m HB.out hx223_0
             replace hx223_1 := s_m HB.out hx223_1
             replace hx223_2 := s_m HB.out hx223_2
             replace hx223_3 := s_m HB.out hx223_3
             replace hx223_4 := s_m HB.out hx223_4
             replace hx223_5 := s_m HB.out hx223_5
             replace hx223_6 := s_m HB.out hx223_6
             replace hx223_7 := s_m HB.out hx223_7
             replace hx223_8 := s_m HB.out hx223_8
             replace hx223_9 := s_m HB.out hx223_9
             replace hx223_10 := s_m HB.out hx223_10
             replace hx223_11 := s_m HB.out hx223_11
             replace hx223_12 := s_m HB.out hx223_12
             replace hx223_13 := s_m HB.out hx223_13
             replace hx223_14 := s_m HB.out hx223_14
             replace hx223_15 := s_m HB.out hx223_15
             replace hx223_16 := s_m HB.out hx223_16
             replace hx223_17 := s_m HB.out hx223_17
             replace hx223_18 := s_m HB.out hx223_18
             replace hx223_19 := s_m HB.out hx223_19
             replace hx223_20 := s_m HB.out hx223_20
             replace hx223_21 := s_m HB.out hx223_21
             replace hx223_22 := s_m HB.out hx223_22
             replace hx223_23 := s_m HB.out hx223_23
             replace hx223_24 := s_m HB.out hx223_24
             replace hx223_25 := s_m HB.out hx223_25
             replace hx223_26 := s_m HB.out hx223_26
             replace hx223_27 := s_m HB.out hx223_27
             replace hx223_28 := s_m HB.out hx223_28
             replace hx223_29 := s_m HB.out hx223_29
             replace hx223_30 := s_m HB.out hx223_30
             replace hx223_31 := s_m HB.out hx223_31
             have HR223_9 := s_a hi223_9
             have HC223_9 := s_a hl223_9
             clear hi223_9 hl223_9
             have HR223_10 := s_a hi223_10
             have HC223_10 := s_a hl223_10
             clear hi223_10 hl223_10
             have HR223_11 := s_a hi223_11
             have HC223_11 := s_a hl223_11
             clear hi223_11 hl223_11
             have HR223_12 := s_a hi223_12
             have HC223_12 := s_a hl223_12
             clear hi223_12 hl223_12
             have HR223_17 := s_a hi223_17
             have HC223_17 := s_a hl223_17
             clear hi223_17 hl223_17
             have HR223_18 := s_a hi223_18
             have HC223_18 := s_a hl223_18
             clear hi223_18 hl223_18
             have HR223_19 := s_a hi223_19
             have HC223_19 := s_a hl223_19
             clear hi223_19 hl223_19
             have HR223_20 := s_a hi223_20
             have HC223_20 := s_a hl223_20
             clear hi223_20 hl223_20
             have HR223_21 := s_a hi223_21
             have HC223_21 := s_a hl223_21
             clear hi223_21 hl223_21
             have HR223_22 := s_a hi223_22
             have HC223_22 := s_a hl223_22
             clear hi223_22 hl223_22
             have HR223_28 := s_a hi223_28
             have HC223_28 := s_a hl223_28
             clear hi223_28 hl223_28
             replace p223 := eq_true p223
             replace q223 := eq_true q223
             refine start_ (n := 16) (S := fun w' => w'.cell? (ad222.add ((x12_1).toNat * 32)) = some (.string ((rd_T41 l1 x12_1).f0.f0)) ∧ w'.cell? ⟨(ad222.add ((x12_1).toNat * 32)).block, (ad222.add ((x12_1).toNat * 32)).off + 1, none⟩ = some (.string ((rd_T41 l1 x12_1).f0.f1)) ∧ w'.cell? ⟨(ad222.add ((x12_1).toNat * 32)).block, (ad222.add ((x12_1).toNat * 32)).off + 2, none⟩ = some (.string ((rd_T41 l1 x12_1).f0.f2)) ∧ w'.cell? ⟨(ad222.add ((x12_1).toNat * 32)).block, (ad222.add ((x12_1).toNat * 32)).off + 3, none⟩ = some (.int .i64 ((rd_T41 l1 x12_1).f0.f3)) ∧ w'.cell? ⟨(ad222.add ((x12_1).toNat * 32)).block, (ad222.add ((x12_1).toNat * 32)).off + 4, none⟩ = some (.int .i64 ((rd_T41 l1 x12_1).f0.f4)) ∧ w'.cell? ⟨(ad222.add ((x12_1).toNat * 32)).block, (ad222.add ((x12_1).toNat * 32)).off + 5, none⟩ = some (.int .i64 ((rd_T41 l1 x12_1).f0.f5)) ∧ w'.cell? ⟨(ad222.add ((x12_1).toNat * 32)).block, (ad222.add ((x12_1).toNat * 32)).off + 6, none⟩ = some (.int .i64 ((rd_T41 l1 x12_1).f0.f6)) ∧ w'.cell? ⟨(ad222.add ((x12_1).toNat * 32)).block, (ad222.add ((x12_1).toNat * 32)).off + 7, none⟩ = some (.bool ((rd_T41 l1 x12_1).f0.f7)) ∧ w'.cell? ⟨(ad222.add ((x12_1).toNat * 32)).block, (ad222.add ((x12_1).toNat * 32)).off + 8, none⟩ = some (.int .i64 ((rd_T41 l1 x12_1).f0.f8)) ∧ w'.cell? ⟨(ad222.add ((x12_1).toNat * 32)).block, (ad222.add ((x12_1).toNat * 32)).off + 9, none⟩ = some (.slice A222_9 ((rd_T41 l1 x12_1).f0.f9).length c222_9) ∧ w'.cell? ⟨(ad222.add ((x12_1).toNat * 32)).block, (ad222.add ((x12_1).toNat * 32)).off + 10, none⟩ = some (.slice A222_10 ((rd_T41 l1 x12_1).f0.f10).length c222_10) ∧ w'.cell? ⟨(ad222.add ((x12_1).toNat * 32)).block, (ad222.add ((x12_1).toNat * 32)).off + 11, none⟩ = some (.slice A222_11 ((rd_T41 l1 x12_1).f0.f11).length c222_11) ∧ w'.cell? ⟨(ad222.add ((x12_1).toNat * 32)).block, (ad222.add ((x12_1).toNat * 32)).off + 12, none⟩ = some (.slice A222_12 ((rd_T41 l1 x12_1).f0.f12).length c222_12) ∧ w'.cell? ⟨(ad222.add ((x12_1).toNat * 32)).block, (ad222.add ((x12_1).toNat * 32)).off + 13, none⟩ = some (.string ((rd_T41 l1 x12_1).f1.f0)) ∧ w'.cell? ⟨(ad222.add ((x12_1).toNat * 32)).block, (ad222.add ((x12_1).toNat * 32)).off + 14, none⟩ = some (.int .i64 ((rd_T41 l1 x12_1).f1.f1)) ∧ w'.cell? ⟨(ad222.add ((x12_1).toNat * 32)).block, (ad222.add ((x12_1).toNat * 32)).off + 15, none⟩ = some (.int .i64 ((rd_T41 l1 x12_1).f1.f2)) ∧ w'.cell? ⟨(ad222.add ((x12_1).toNat * 32)).block, (ad222.add ((x12_1).toNat * 32)).off + 16, none⟩ = some (.int .i64 ((rd_T41 l1 x12_1).f1.f3)) ∧ w'.cell? ⟨(ad222.add ((x12_1).toNat * 32)).block, (ad222.add ((x12_1).toNat * 32)).off + 17, none⟩ = some (.slice A222_17 ((rd_T41 l1 x12_1).f1.f4).length c222_17) ∧ w'.cell? ⟨(ad222.add ((x12_1).toNat * 32)).block, (ad222.add ((x12_1).toNat * 32)).off + 18, none⟩ = some (.slice A222_18 ((rd_T41 l1 x12_1).f1.f5).length c222_18) ∧ w'.cell? ⟨(ad222.add ((x12_1).toNat * 32)).block, (ad222.add ((x12_1).toNat * 32)).off + 19, none⟩ = some (.slice A222_19 ((rd_T41 l1 x12_1).f1.f6).length c222_19) ∧ w'.cell? ⟨(ad222.add ((x12_1).toNat * 32)).block, (ad222.add ((x12_1).toNat * 32)).off + 20, none⟩ = some (.slice A222_20 ((rd_T41 l1 x12_1).f1.f7).length c222_20) ∧ w'.cell? ⟨(ad222.add ((x12_1).toNat * 32)).block, (ad222.add ((x12_1).toNat * 32)).off + 21, none⟩ = some (.slice A222_21 ((rd_T41 l1 x12_1).f1.f8).length c222_21) ∧ w'.cell? ⟨(ad222.add ((x12_1).toNat * 32)).block, (ad222.add ((x12_1).toNat * 32)).off + 22, none⟩ = some (.slice A222_22 ((rd_T41 l1 x12_1).f1.f9).length c222_22) ∧ w'.cell? ⟨(ad222.add ((x12_1).toNat * 32)).block, (ad222.add ((x12_1).toNat * 32)).off + 23, none⟩ = some (.int .i64 ((rd_T41 l1 x12_1).f2.f0)) ∧ w'.cell? ⟨(ad222.add ((x12_1).toNat * 32)).block, (ad222.add ((x12_1).toNat * 32)).off + 24, none⟩ = some (.bool ((rd_T41 l1 x12_1).f2.f1)) ∧ w'.cell? ⟨(ad222.add ((x12_1).toNat * 32)).block, (ad222.add ((x12_1).toNat * 32)).off + 25, none⟩ = some (.int .i64 ((rd_T41 l1 x12_1).f2.f2)) ∧ w'.cell? ⟨(ad222.add ((x12_1).toNat * 32)).block, (ad222.add ((x12_1).toNat * 32)).off + 26, none⟩ = some (.int .i64 ((rd_T41 l1 x12_1).f2.f3)) ∧ w'.cell? ⟨(ad222.add ((x12_1).toNat * 32)).block, (ad222.add ((x12_1).toNat * 32)).off + 27, none⟩ = some (.int .i64 ((rd_T41 l1 x12_1).f2.f4)) ∧ w'.cell? ⟨(ad222.add ((x12_1).toNat * 32)).block, (ad222.add ((x12_1).toNat * 32)).off + 28, none⟩ = some (.slice A222_28 ((rd_T41 l1 x12_1).f2.f5).length c222_28) ∧ w'.cell? ⟨(ad222.add ((x12_1).toNat * 32)).block, (ad222.add ((x12_1).toNat * 32)).off + 29, none⟩ = some (.int .i64 ((rd_T41 l1 x12_1).f2.f6)) ∧ w'.cell? ⟨(ad222.add ((x12_1).toNat * 32)).block, (ad222.add ((x12_1).toNat * 32)).off + 30, none⟩ = some (.string ((rd_T41 l1 x12_1).f2.f7)) ∧ w'.cell? ⟨(ad222.add ((x12_1).toNat * 32)).block, (ad222.add ((x12_1).toNat * 32)).off + 31, none⟩ = some (.string ((rd_T41 l1 x12_1).f2.f8)) ∧ w'.cell? (ad222.add ((x17_2).toNat * 32)) = some (.string ((rd_T41 l1 x17_2).f0.f0)) ∧ w'.cell? ⟨(ad222.add ((x17_2).toNat * 32)).block, (ad222.add ((x17_2).toNat * 32)).off + 1, none⟩ = some (.string ((rd_T41 l1 x17_2).f0.f1)) ∧ w'.cell? ⟨(ad222.add ((x17_2).toNat * 32)).block, (ad222.add ((x17_2).toNat * 32)).off + 2, none⟩ = some (.string ((rd_T41 l1 x17_2).f0.f2)) ∧ w'.cell? ⟨(ad222.add ((x17_2).toNat * 32)).block, (ad222.add ((x17_2).toNat * 32)).off + 3, none⟩ = some (.int .i64 ((rd_T41 l1 x17_2).f0.f3)) ∧ w'.cell? ⟨(ad222.add ((x17_2).toNat * 32)).block, (ad222.add ((x17_2).toNat * 32)).off + 4, none⟩ = some (.int .i64 ((rd_T41 l1 x17_2).f0.f4)) ∧ w'.cell? ⟨(ad222.add ((x17_2).toNat * 32)).block, (ad222.add ((x17_2).toNat * 32)).off + 5, none⟩ = some (.int .i64 ((rd_T41 l1 x17_2).f0.f5)) ∧ w'.cell? ⟨(ad222.add ((x17_2).toNat * 32)).block, (ad222.add ((x17_2).toNat * 32)).off + 6, none⟩ = some (.int .i64 ((rd_T41 l1 x17_2).f0.f6)) ∧ w'.cell? ⟨(ad222.add ((x17_2).toNat * 32)).block, (ad222.add ((x17_2).toNat * 32)).off + 7, none⟩ = some (.bool ((rd_T41 l1 x17_2).f0.f7)) ∧ w'.cell? ⟨(ad222.add ((x17_2).toNat * 32)).block, (ad222.add ((x17_2).toNat * 32)).off + 8, none⟩ = some (.int .i64 ((rd_T41 l1 x17_2).f0.f8)) ∧ w'.cell? ⟨(ad222.add ((x17_2).toNat * 32)).block, (ad222.add ((x17_2).toNat * 32)).off + 9, none⟩ = some (.slice A223_9 ((rd_T41 l1 x17_2).f0.f9).length c223_9) ∧ w'.cell? ⟨(ad222.add ((x17_2).toNat * 32)).block, (ad222.add ((x17_2).toNat * 32)).off + 10, none⟩ = some (.slice A223_10 ((rd_T41 l1 x17_2).f0.f10).length c223_10) ∧ w'.cell? ⟨(ad222.add ((x17_2).toNat * 32)).block, (ad222.add ((x17_2).toNat * 32)).off + 11, none⟩ = some (.slice A223_11 ((rd_T41 l1 x17_2).f0.f11).length c223_11) ∧ w'.cell? ⟨(ad222.add ((x17_2).toNat * 32)).block, (ad222.add ((x17_2).toNat * 32)).off + 12, none⟩ = some (.slice A223_12 ((rd_T41 l1 x17_2).f0.f12).length c223_12) ∧ w'.cell? ⟨(ad222.add ((x17_2).toNat * 32)).block, (ad222.add ((x17_2).toNat * 32)).off + 13, none⟩ = some (.string ((rd_T41 l1 x17_2).f1.f0)) ∧ w'.cell? ⟨(ad222.add ((x17_2).toNat * 32)).block, (ad222.add ((x17_2).toNat * 32)).off + 14, none⟩ = some (.int .i64 ((rd_T41 l1 x17_2).f1.f1)) ∧ w'.cell? ⟨(ad222.add ((x17_2).toNat * 32)).block, (ad222.add ((x17_2).toNat * 32)).off + 15, none⟩ = some (.int .i64 ((rd_T41 l1 x17_2).f1.f2)) ∧ w'.cell? ⟨(ad222.add ((x17_2).toNat * 32)).block, (ad222.add ((x17_2).toNat * 32)).off + 16, none⟩ = some (.int .i64 ((rd_T41 l1 x17_2).f1.f3)) ∧ w'.cell? ⟨(ad222.add ((x17_2).toNat * 32)).block, (ad222.add ((x17_2).toNat * 32)).off + 17, none⟩ = some (.slice A223_17 ((rd_T41 l1 x17_2).f1.f4).length c223_17) ∧ w'.cell? ⟨(ad222.add ((x17_2).toNat * 32)).block, (ad222.add ((x17_2).toNat * 32)).off + 18, none⟩ = some (.slice A223_18 ((rd_T41 l1 x17_2).f1.f5).length c223_18) ∧ w'.cell? ⟨(ad222.add ((x17_2).toNat * 32)).block, (ad222.add ((x17_2).toNat * 32)).off + 19, none⟩ = some (.slice A223_19 ((rd_T41 l1 x17_2).f1.f6).length c223_19) ∧ w'.cell? ⟨(ad222.add ((x17_2).toNat * 32)).block, (ad222.add ((x17_2).toNat * 32)).off + 20, none⟩ = some (.slice A223_20 ((rd_T41 l1 x17_2).f1.f7).length c223_20) ∧ w'.cell? ⟨(ad222.add ((x17_2).toNat * 32)).block, (ad222.add ((x17_2).toNat * 32)).off + 21, none⟩ = some (.slice A223_21 ((rd_T41 l1 x17_2).f1.f8).length c223_21) ∧ w'.cell? ⟨(ad222.add ((x17_2).toNat * 32)).block, (ad222.add ((x17_2).toNat * 32)).off + 22, none⟩ = some (.slice A223_22 ((rd_T41 l1 x17_2).f1.f9).length c223_22) ∧ w'.cell? ⟨(ad222.add ((x17_2).toNat * 32)).block, (ad222.add ((x17_2).toNat * 32)).off + 23, none⟩ = some (.int .i64 ((rd_T41 l1 x17_2).f2.f0)) ∧ w'.cell? ⟨(ad222.add ((x17_2).toNat * 32)).block, (ad222.add ((x17_2).toNat * 32)).off + 24, none⟩ = some (.bool ((rd_T41 l1 x17_2).f2.f1)) ∧ w'.cell? ⟨(ad222.add ((x17_2).toNat * 32)).block, (ad222.add ((x17_2).toNat * 32)).off + 25, none⟩ = some (.int .i64 ((rd_T41 l1 x17_2).f2.f2)) ∧ w'.cell? ⟨(ad222.add ((x17_2).toNat * 32)).block, (ad222.add ((x17_2).toNat * 32)).off + 26, none⟩ = some (.int .i64 ((rd_T41 l1 x17_2).f2.f3)) ∧ w'.cell? ⟨(ad222.add ((x17_2).toNat * 32)).block, (ad222.add ((x17_2).toNat * 32)).off + 27, none⟩ = some (.int .i64 ((rd_T41 l1 x17_2).f2.f4)) ∧ w'.cell? ⟨(ad222.add ((x17_2).toNat * 32)).block, (ad222.add ((x17_2).toNat * 32)).off + 28, none⟩ = some (.slice A223_28 ((rd_T41 l1 x17_2).f2.f5).length c223_28) ∧ w'.cell? ⟨(ad222.add ((x17_2).toNat * 32)).block, (ad222.add ((x17_2).toNat * 32)).off + 29, none⟩ = some (.int .i64 ((rd_T41 l1 x17_2).f2.f6)) ∧ w'.cell? ⟨(ad222.add ((x17_2).toNat * 32)).block, (ad222.add ((x17_2).toNat * 32)).off + 30, none⟩ = some (.string ((rd_T41 l1 x17_2).f2.f7)) ∧ w'.cell? ⟨(ad222.add ((x17_2).toNat * 32)).block, (ad222.add ((x17_2).toNat * 32)).off + 31, none⟩ = some (.string ((rd_T41 l1 x17_2).f2.f8))) (ds := []) (bz 16 0) (by kernel_rfl) rfl rfl ⟨(s_m HB.out hw222_0), (s_m HB.out hw222_1), (s_m HB.out hw222_2), (s_m HB.out hw222_3), (s_m HB.out hw222_4), (s_m HB.out hw222_5), (s_m HB.out hw222_6), (s_m HB.out hw222_7), (s_m HB.out hw222_8), (s_m HB.out hw222_9), (s_m HB.out hw222_10), (s_m HB.out hw222_11), (s_m HB.out hw222_12), (s_m HB.out hw222_13), (s_m HB.out hw222_14), (s_m HB.out hw222_15), (s_m HB.out hw222_16), (s_m HB.out hw222_17), (s_m HB.out hw222_18), (s_m HB.out hw222_19), (s_m HB.out hw222_20), (s_m HB.out hw222_21), (s_m HB.out hw222_22), (s_m HB.out hw222_23), (s_m HB.out hw222_24), (s_m HB.out hw222_25), (s_m HB.out hw222_26), (s_m HB.out hw222_27), (s_m HB.out hw222_28), (s_m HB.out hw222_29), (s_m HB.out hw222_30), (s_m HB.out hw222_31), (s_m HB.out hw223_0), (s_m HB.out hw223_1), (s_m HB.out hw223_2), (s_m HB.out hw223_3), (s_m HB.out hw223_4), (s_m HB.out hw223_5), (s_m HB.out hw223_6), (s_m HB.out hw223_7), (s_m HB.out hw223_8), (s_m HB.out hw223_9), (s_m HB.out hw223_10), (s_m HB.out hw223_11), (s_m HB.out hw223_12), (s_m HB.out hw223_13), (s_m HB.out hw223_14), (s_m HB.out hw223_15), (s_m HB.out hw223_16), (s_m HB.out hw223_17), (s_m HB.out hw223_18), (s_m HB.out hw223_19), (s_m HB.out hw223_20), (s_m HB.out hw223_21), (s_m HB.out hw223_22), (s_m HB.out hw223_23), (s_m HB.out hw223_24), (s_m HB.out hw223_25), (s_m HB.out hw223_26), (s_m HB.out hw223_27), (s_m HB.out hw223_28), (s_m HB.out hw223_29), (s_m HB.out hw223_30), (s_m HB.out hw223_31)⟩ (fun hHeld => ?_); refine with_tabW netpolicy_Reach.tab8 netpolicy_Reach.bits8 (fun HT_ HW_ => ?_)
             generalize wr.drew = w18 at HO_7 HB HR222_10 HR222_11 HR222_12 HR222_17 HR222_18 HR222_19 HR222_20 HR222_21 HR222_22 HR222_28 HR222_9 HR223_10 HR223_11 HR223_12 HR223_17 HR223_18 HR223_19 HR223_20 HR223_21 HR223_22 HR223_28 HR223_9 hx222_0 hx222_1 hx222_10 hx222_11 hx222_12 hx222_13 hx222_14 hx222_15 hx222_16 hx222_17 hx222_18 hx222_19 hx222_2 hx222_20 hx222_21 hx222_22 hx222_23 hx222_24 hx222_25 hx222_26 hx222_27 hx222_28 hx222_29 hx222_3 hx222_30 hx222_31 hx222_4 hx222_5 hx222_6 hx222_7 hx222_8 hx222_9 hx223_0 hx223_1 hx223_10 hx223_11 hx223_12 hx223_13 hx223_14 hx223_15 hx223_16 hx223_17 hx223_18 hx223_19 hx223_2 hx223_20 hx223_21 hx223_22 hx223_23 hx223_24 hx223_25 hx223_26 hx223_27 hx223_28 hx223_29 hx223_3 hx223_30 hx223_31 hx223_4 hx223_5 hx223_6 hx223_7 hx223_8 hx223_9 hHeld ⊢
             refine q_p 0 (some 20) (bz 16 1) (any_of HT_.out (by kernel_rfl)) (v := ?_) ?_ (a' := ?_) ?_ ?_; rotate_left 2
             ·intro w'; go_simp; with_reducible rfl
             ·simp only [Act.put, List.setIfInBounds_toArray, List.set_cons_zero, List.set_cons_succ, i64_w, i32_w]; rfl
             refine q_p 1 (some 21) (bz 16 3) (any_of HT_.out (by kernel_rfl)) (v := ?_) ?_ (a' := ?_) ?_ ?_; rotate_left 2
             ·intro w'; go_simp; with_reducible rfl
             ·simp only [Act.put, List.setIfInBounds_toArray, List.set_cons_zero, List.set_cons_succ, i64_w, i32_w]; rfl
             refine q_p 2 (some 22) (bz 16 7) (any_of HT_.out (by kernel_rfl)) (v := ?_) ?_ (a' := ?_) ?_ ?_; rotate_left 2
             ·intro w'; go_simp; with_reducible rfl
             ·simp only [Act.put, List.setIfInBounds_toArray, List.set_cons_zero, List.set_cons_succ, i64_w, i32_w]; rfl
             refine q_p 3 (some 23) (bz 16 15) (any_of HT_.out (by kernel_rfl)) (v := ?_) ?_ (a' := ?_) ?_ ?_; rotate_left 2
             ·intro w'; go_simp; with_reducible rfl
             ·simp only [Act.put, List.setIfInBounds_toArray, List.set_cons_zero, List.set_cons_succ, i64_w, i32_w]; rfl
             refine q_p 4 (some 24) (bz 16 31) (any_of HT_.out (by kernel_rfl)) (v := ?_) ?_ (a' := ?_) ?_ ?_; rotate_left 2
             ·intro w'; go_simp; with_reducible rfl
             ·simp only [Act.put, List.setIfInBounds_toArray, List.set_cons_zero, List.set_cons_succ, i64_w, i32_w]; rfl
             refine q_p 5 (some 25) (bz 16 63) (any_of HT_.out (by kernel_rfl)) (v := ?_) ?_ (a' := ?_) ?_ ?_; rotate_left 2
             ·intro w'; go_simp; with_reducible rfl
             ·simp only [Act.put, List.setIfInBounds_toArray, List.set_cons_zero, List.set_cons_succ, i64_w, i32_w]; rfl
             refine q_p 6 (some 26) (bz 16 127) (any_of HT_.out (by kernel_rfl)) (v := ?_) ?_ (a' := ?_) ?_ ?_; rotate_left 2
             ·intro w'; go_simp; with_reducible rfl
             ·simp only [Act.put, List.setIfInBounds_toArray, List.set_cons_zero, List.set_cons_succ, i64_w, i32_w]; rfl
             refine q_p 7 (some 27) (bz 16 255) (any_of HT_.out (by kernel_rfl)) (v := ?_) ?_ (a' := ?_) ?_ ?_; rotate_left 2
             ·intro w'; go_simp; with_reducible rfl
             ·simp only [Act.put, List.setIfInBounds_toArray, List.set_cons_zero, List.set_cons_succ, i64_w, i32_w]; rfl
             refine q_p 9 (some 29) (bz 16 767) (any_of HT_.out (by kernel_rfl)) (v := ?_) ?_ (a' := ?_) ?_ ?_; rotate_left 2
             ·intro w'; go_simp; with_reducible rfl
             ·simp only [Act.put, List.setIfInBounds_toArray, List.set_cons_zero, List.set_cons_succ, i64_w, i32_w]; rfl
             refine q_p 10 (some 30) (bz 16 1791) (any_of HT_.out (by kernel_rfl)) (v := ?_) ?_ (a' := ?_) ?_ ?_; rotate_left 2
             ·intro w'; go_simp; with_reducible rfl
             ·simp only [Act.put, List.setIfInBounds_toArray, List.set_cons_zero, List.set_cons_succ, i64_w, i32_w]; rfl
             refine q_p 11 (some 31) (bz 16 3839) (any_of HT_.out (by kernel_rfl)) (v := ?_) ?_ (a' := ?_) ?_ ?_; rotate_left 2
             ·intro w'; go_simp; with_reducible rfl
             ·simp only [Act.put, List.setIfInBounds_toArray, List.set_cons_zero, List.set_cons_succ, i64_w, i32_w]; rfl
             refine q_p 13 (some 33) (bz 16 12031) (any_of HT_.out (by kernel_rfl)) (v := ?_) ?_ (a' := ?_) ?_ ?_; rotate_left 2
             ·intro w'; go_simp; with_reducible rfl
             ·simp only [Act.put, List.setIfInBounds_toArray, List.set_cons_zero, List.set_cons_succ, i64_w, i32_w]; rfl
             refine q_t 8 (some 28) (bz 16 12287) (take_ofW HT_.out HW_.out (by kernel_rfl)) hHeld (v := ?_) ?_ (a' := ?_) ?_ ?_; rotate_left 2
             ·rintro w' ⟨s0, s1, s2, s3, s4, s5, s6, s7, s8, s9, s10, s11, s12, s13, s14, s15, s16, s17, s18, s19, s20, s21, s22, s23, s24, s25, s26, s27, s28, s29, s30, s31, s32, s33, s34, s35, s36, s37, s38, s39, s40, s41, s42, s43, s44, s45, s46, s47, s48, s49, s50, s51, s52, s53, s54, s55, s56, s57, s58, s59, s60, s61, s62, s63⟩; (refine (s_ld rfl 41 (.tmp 27) ?_ _ ?_ _ _ (cells_at s0 (s_cc s1 (s_cc s2 (s_cc s3 (s_cc s4 (s_cc s5 (s_cc s6 (s_cc s7 (s_cc s8 (s_cc s9 (s_cc s10 (s_cc s11 (s_cc s12 (s_cc s13 (s_cc s14 (s_cc s15 (s_cc s16 (s_cc s17 (s_cc s18 (s_cc s19 (s_cc s20 (s_cc s21 (s_cc s22 (s_cc s23 (s_cc s24 (s_cc s25 (s_cc s26 (s_cc s27 (s_cc s28 (s_cc s29 (s_cc s30 (s_cc s31 s_cn)))))))))))))))))))))))))))))))) Try.underlying41 (by rfl) sz41).trans ?_ <;> first | (with_reducible rfl) | rfl)
             ·simp only [Act.put, List.setIfInBounds_toArray, List.set_cons_zero, List.set_cons_succ, i64_w, i32_w]; rfl
             refine q_t 12 (some 32) (bz 16 16383) (take_ofW HT_.out HW_.out (by kernel_rfl)) hHeld (v := ?_) ?_ (a' := ?_) ?_ ?_; rotate_left 2
             ·rintro w' ⟨s0, s1, s2, s3, s4, s5, s6, s7, s8, s9, s10, s11, s12, s13, s14, s15, s16, s17, s18, s19, s20, s21, s22, s23, s24, s25, s26, s27, s28, s29, s30, s31, s32, s33, s34, s35, s36, s37, s38, s39, s40, s41, s42, s43, s44, s45, s46, s47, s48, s49, s50, s51, s52, s53, s54, s55, s56, s57, s58, s59, s60, s61, s62, s63⟩; (refine (s_ld rfl 41 (.tmp 31) ?_ _ ?_ _ _ (cells_at s32 (s_cc s33 (s_cc s34 (s_cc s35 (s_cc s36 (s_cc s37 (s_cc s38 (s_cc s39 (s_cc s40 (s_cc s41 (s_cc s42 (s_cc s43 (s_cc s44 (s_cc s45 (s_cc s46 (s_cc s47 (s_cc s48 (s_cc s49 (s_cc s50 (s_cc s51 (s_cc s52 (s_cc s53 (s_cc s54 (s_cc s55 (s_cc s56 (s_cc s57 (s_cc s58 (s_cc s59 (s_cc s60 (s_cc s61 (s_cc s62 (s_cc s63 s_cn)))))))))))))))))))))))))))))))) Try.underlying41 (by rfl) sz41).trans ?_ <;> first | (with_reducible rfl) | rfl)
             ·simp only [Act.put, List.setIfInBounds_toArray, List.set_cons_zero, List.set_cons_succ, i64_w, i32_w]; rfl
             refine one_ (i := 14) (N := some 34) (bz 16 32767) rfl rfl (one_of HT_.out (by kernel_rfl)) (by decide) (fun K hK => ?_)
             refine goes_ Try.func11 (by kernel_rfl) rfl #[.slice A0 l0.length c0, .agg #[.string ((rd_T41 l1 x12_1).f0.f0), .string ((rd_T41 l1 x12_1).f0.f1), .string ((rd_T41 l1 x12_1).f0.f2), .int .i64 ((rd_T41 l1 x12_1).f0.f3), .int .i64 ((rd_T41 l1 x12_1).f0.f4), .int .i64 ((rd_T41 l1 x12_1).f0.f5), .int .i64 ((rd_T41 l1 x12_1).f0.f6), .bool ((rd_T41 l1 x12_1).f0.f7), .int .i64 ((rd_T41 l1 x12_1).f0.f8), .slice A222_9 ((rd_T41 l1 x12_1).f0.f9).length c222_9, .slice A222_10 ((rd_T41 l1 x12_1).f0.f10).length c222_10, .slice A222_11 ((rd_T41 l1 x12_1).f0.f11).length c222_11, .slice A222_12 ((rd_T41 l1 x12_1).f0.f12).length c222_12, .string ((rd_T41 l1 x12_1).f1.f0), .int .i64 ((rd_T41 l1 x12_1).f1.f1), .int .i64 ((rd_T41 l1 x12_1).f1.f2), .int .i64 ((rd_T41 l1 x12_1).f1.f3), .slice A222_17 ((rd_T41 l1 x12_1).f1.f4).length c222_17, .slice A222_18 ((rd_T41 l1 x12_1).f1.f5).length c222_18, .slice A222_19 ((rd_T41 l1 x12_1).f1.f6).length c222_19, .slice A222_20 ((rd_T41 l1 x12_1).f1.f7).length c222_20, .slice A222_21 ((rd_T41 l1 x12_1).f1.f8).length c222_21, .slice A222_22 ((rd_T41 l1 x12_1).f1.f9).length c222_22, .int .i64 ((rd_T41 l1 x12_1).f2.f0), .bool ((rd_T41 l1 x12_1).f2.f1), .int .i64 ((rd_T41 l1 x12_1).f2.f2), .int .i64 ((rd_T41 l1 x12_1).f2.f3), .int .i64 ((rd_T41 l1 x12_1).f2.f4), .slice A222_28 ((rd_T41 l1 x12_1).f2.f5).length c222_28, .int .i64 ((rd_T41 l1 x12_1).f2.f6), .string ((rd_T41 l1 x12_1).f2.f7), .string ((rd_T41 l1 x12_1).f2.f8)], .agg #[.string ((rd_T41 l1 x17_2).f0.f0), .string ((rd_T41 l1 x17_2).f0.f1), .string ((rd_T41 l1 x17_2).f0.f2), .int .i64 ((rd_T41 l1 x17_2).f0.f3), .int .i64 ((rd_T41 l1 x17_2).f0.f4), .int .i64 ((rd_T41 l1 x17_2).f0.f5), .int .i64 ((rd_T41 l1 x17_2).f0.f6), .bool ((rd_T41 l1 x17_2).f0.f7), .int .i64 ((rd_T41 l1 x17_2).f0.f8), .slice A223_9 ((rd_T41 l1 x17_2).f0.f9).length c223_9, .slice A223_10 ((rd_T41 l1 x17_2).f0.f10).length c223_10, .slice A223_11 ((rd_T41 l1 x17_2).f0.f11).length c223_11, .slice A223_12 ((rd_T41 l1 x17_2).f0.f12).length c223_12, .string ((rd_T41 l1 x17_2).f1.f0), .int .i64 ((rd_T41 l1 x17_2).f1.f1), .int .i64 ((rd_T41 l1 x17_2).f1.f2), .int .i64 ((rd_T41 l1 x17_2).f1.f3), .slice A223_17 ((rd_T41 l1 x17_2).f1.f4).length c223_17, .slice A223_18 ((rd_T41 l1 x17_2).f1.f5).length c223_18, .slice A223_19 ((rd_T41 l1 x17_2).f1.f6).length c223_19, .slice A223_20 ((rd_T41 l1 x17_2).f1.f7).length c223_20, .slice A223_21 ((rd_T41 l1 x17_2).f1.f8).length c223_21, .slice A223_22 ((rd_T41 l1 x17_2).f1.f9).length c223_22, .int .i64 ((rd_T41 l1 x17_2).f2.f0), .bool ((rd_T41 l1 x17_2).f2.f1), .int .i64 ((rd_T41 l1 x17_2).f2.f2), .int .i64 ((rd_T41 l1 x17_2).f2.f3), .int .i64 ((rd_T41 l1 x17_2).f2.f4), .slice A223_28 ((rd_T41 l1 x17_2).f2.f5).length c223_28, .int .i64 ((rd_T41 l1 x17_2).f2.f6), .string ((rd_T41 l1 x17_2).f2.f7), .string ((rd_T41 l1 x17_2).f2.f8)], .int .i64 a2] (by rfl) rfl rfl (by (try simp only [List.map_toArray, List.map_cons, List.map_nil]); first | done | rfl | (simp only [List.length_drop, List.length_take]; rfl)) ?_
             with_reducible refine (netpolicy_Allowed.calls k2 _ _ _ _ _ _ _ _ _ _ _ _ _ _ _ _ _ _ _ _ _ _ _ _ _ _ _ _ _ _ _ _ _ _ _ _ _ _ _ _ _ _ _ _ _ _ _ _ _ _ _ _ _ _ _ _ _ _ _ _ _ _ _ _ _ _ _ _ _ _ _ _ _ _ _ _ _ _ _ _ _ _ _ _ _ _ _ _ _ _ _ _ _ _ _ _ _ _ _ _ _ _ _ _ _ _ _ _ _ _ _ _ _ _ ?side1 ?side2 ?side3 ?side4 ?side5 ?side6 ?side7 ?side8 ?side9 ?side10 ?side11 ?side12 ?side13 ?side14 ?side15 ?side16 ?side17 ?side18 ?side19 ?side20 ?side21 ?side22 ?side23 ?side24 ?side25 ?side26 ?side27 ?side28 ?side29 ?side30 ?side31 ?side32 ?side33 ?side34 ?side35 ?side36 ?side37 ?side38 ?side39 ?side40 ?side41 ?side42 ?side43 ?side44 ?side45 ?side46 A12.out).mono ?_
             (case side1 => exact s_D HR0.out HB.out)
             (case side2 => exact HC0.out)
             (case side3 => exact s_D HR222_9.out HB.out)
             (case side4 => exact HC222_9.out)
             (case side5 => exact s_D HR222_10.out HB.out)
             (case side6 => exact HC222_10.out)
             (case side7 => exact s_D HR222_11.out HB.out)
             (case side8 => exact HC222_11.out)
             (case side9 => exact s_D HR222_12.out HB.out)
             (case side10 => exact HC222_12.out)
             (case side11 => exact s_D HR222_17.out HB.out)
             (case side12 => exact HC222_17.out)
             (case side13 => exact s_D HR222_18.out HB.out)
             (case side14 => exact HC222_18.out)
             (case side15 => exact s_D HR222_19.out HB.out)
             (case side16 => exact HC222_19.out)
             (case side17 => exact s_D HR222_20.out HB.out)
             (case side18 => exact HC222_20.out)
             (case side19 => exact s_D HR222_21.out HB.out)
             (case side20 => exact HC222_21.out)
             (case side21 => exact s_D HR222_22.out HB.out)
             (case side22 => exact HC222_22.out)
             (case side23 => exact s_D HR222_28.out HB.out)
             (case side24 => exact HC222_28.out)
             (case side25 => exact s_D HR223_9.out HB.out)
             (case side26 => exact HC223_9.out)
             (case side27 => exact s_D HR223_10.out HB.out)
             (case side28 => exact HC223_10.out)
             (case side29 => exact s_D HR223_11.out HB.out)
             (case side30 => exact HC223_11.out)
             (case side31 => exact s_D HR223_12.out HB.out)
             (case side32 => exact HC223_12.out)
             (case side33 => exact s_D HR223_17.out HB.out)
             (case side34 => exact HC223_17.out)
             (case side35 => exact s_D HR223_18.out HB.out)
             (case side36 => exact HC223_18.out)
             (case side37 => exact s_D HR223_19.out HB.out)
             (case side38 => exact HC223_19.out)
             (case side39 => exact s_D HR223_20.out HB.out)
             (case side40 => exact HC223_20.out)
             (case side41 => exact s_D HR223_21.out HB.out)
             (case side42 => exact HC223_21.out)
             (case side43 => exact s_D HR223_22.out HB.out)
             (case side44 => exact HC223_22.out)
             (case side45 => exact s_D HR223_28.out HB.out)
             (case side46 => exact HC223_28.out)
             rintro e w19 ⟨rfl, hb⟩
             refine ⟨_, rfl, ?_⟩
             replace HO_7 := s_a (Kd.R_below (by exact s_R (HO_7.out)) hb)
             replace HB := s_a (below_step (by exact s_b HB.out) hb)
             (try clear hb)
             refine hK.out _ _ ⟨(s_m HB.out hw222_0), (s_m HB.out hw222_1), (s_m HB.out hw222_2), (s_m HB.out hw222_3), (s_m HB.out hw222_4), (s_m HB.out hw222_5), (s_m HB.out hw222_6), (s_m HB.out hw222_7), (s_m HB.out hw222_8), (s_m HB.out hw222_9), (s_m HB.out hw222_10), (s_m HB.out hw222_11), (s_m HB.out hw222_12), (s_m HB.out hw222_13), (s_m HB.out hw222_14), (s_m HB.out hw222_15), (s_m HB.out hw222_16), (s_m HB.out hw222_17), (s_m HB.out hw222_18), (s_m HB.out hw222_19), (s_m HB.out hw222_20), (s_m HB.out hw222_21), (s_m HB.out hw222_22), (s_m HB.out hw222_23), (s_m HB.out hw222_24), (s_m HB.out hw222_25), (s_m HB.out hw222_26), (s_m HB.out hw222_27), (s_m HB.out hw222_28), (s_m HB.out hw222_29), (s_m HB.out hw222_30), (s_m HB.out hw222_31), (s_m HB.out hw223_0), (s_m HB.out hw223_1), (s_m HB.out hw223_2), (s_m HB.out hw223_3), (s_m HB.out hw223_4), (s_m HB.out hw223_5), (s_m HB.out hw223_6), (s_m HB.out hw223_7), (s_m HB.out hw223_8), (s_m HB.out hw223_9), (s_m HB.out hw223_10), (s_m HB.out hw223_11), (s_m HB.out hw223_12), (s_m HB.out hw223_13), (s_m HB.out hw223_14), (s_m HB.out hw223_15), (s_m HB.out hw223_16), (s_m HB.out hw223_17), (s_m HB.out hw223_18), (s_m HB.out hw223_19), (s_m HB.out hw223_20), (s_m HB.out hw223_21), (s_m HB.out hw223_22), (s_m HB.out hw223_23), (s_m HB.out hw223_24), (s_m HB.out hw223_25), (s_m HB.out hw223_26), (s_m HB.out hw223_27), (s_m HB.out hw223_28), (s_m HB.out hw223_29), (s_m HB.out hw223_30), (s_m HB.out hw223_31)⟩ (fun hHeld => ?_)
             clear hK K
             refine norm_ (a' := ?_) ?_ ?_
             rotate_left
             ·show Act.put _ (some 34) _ = _
              simp only [Act.put, List.setIfInBounds_toArray, List.set_cons_zero, List.set_cons_succ, i64_w, i32_w]
              rfl
             refine q_p 15 (some 35) (bz 16 65535) (any_of HT_.out (by kernel_rfl)) (v := ?_) ?_ (a' := ?_) ?_ ?_; rotate_left 2
             ·intro w'; go_simp; with_reducible rfl
             ·simp only [Act.put, List.setIfInBounds_toArray, List.set_cons_zero, List.set_cons_succ, i64_w, i32_w]; rfl
             refine done_ (done_of HT_.out (by kernel_rfl)) ?_
             try go_wp2
             go_roundg k2
             case measure => have := HK1.out; have := HK2.out; omega
             case rel => exact ⟨(x7_2), (wrap64 (x17_2 + 1)), (by first | rfl | (simp; done) | (simp [*]; done)), H', ⟨by have := HK1.out; have := HK2.out; omega⟩, ⟨by exact s_R (HO_7.out)⟩, ⟨by exact s_b HB.out⟩⟩
           ·rw [if_neg c11] at H
            exact absurd H (by simp)
          ·rw [if_neg c10] at H
           exact absurd H (by simp)
         ·rw [if_neg c9] at H
          exact absurd H (by simp)
        ·rw [if_neg c8] at H
         exact absurd H (by simp)
      ·rw [if_neg c5] at H
       have c5b0 : decide (x17_2 < (l1.length : Int)) = false := decide_eq_false c5
       clear c5
       have H' := s_a H
       clear H
       go_wp2
       go_roundg k2
       case measure => have := HK1.out; have := HK2.out; omega
       case rel => exact ⟨(x7_2), (wrap64 (x12_1 + 1)), (by first | rfl | (simp; done) | (simp [*]; done)), H', ⟨by have := HK1.out; have := HK2.out; omega⟩, ⟨by exact s_R (HO_7.out)⟩, ⟨by exact s_b HB.out⟩⟩
   ·rw [if_neg c4] at H
    have c4b0 : decide (x12_1 < (l1.length : Int)) = false := decide_eq_false c4
    clear c4
    obtain rfl := Option.some.inj H
    go_wp2
    go_ret
    exact ⟨_, by first | rfl | (simp [errW_none, errW_some] <;> rfl) | (simp [*, errW_none, errW_some] <;> rfl), by exact s_R (HO_7.out), by exact s_b HB.out⟩
end Go.Proofs.Ytkdikhonafbgdaa.Q
