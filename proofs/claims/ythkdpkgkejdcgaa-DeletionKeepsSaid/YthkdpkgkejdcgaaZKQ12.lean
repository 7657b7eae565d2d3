/- Part of a claim: see its row. Conditions: stated at each. -/
import Derived.Test.YthkdpkgkejdcgaaZKQ0
namespace Go.Proofs.Ythkdpkgkejdcgaa.Q
open Go.RowKit Go.Proofs.YthkdpkgkejdcgaaW.PrintWords Go.Proofs.YthkdpkgkejdcgaaW.PrintLast Go.Proofs.YthkdpkgkejdcgaaW.PrintMore Go.Proofs.Ythkdpkgkejdcgaa.Sh
attribute [local go_sem] max2_int min2_int max_two min_two max_three min_three max_four min_four
set_option linter.unusedVariables false
set_option linter.unusedSimpArgs false
mutual
def orchestratorref21_SameValue.j0 : Nat → Bool → Int → Int → ByteArray → List (S31) → List (S70) → Int → Int → ByteArray → List (S31) → List (S70) → Option (Bool)
 | 0, _, _, _, _, _, _, _, _, _, _, _ => none
 | k + 1, x43, x557000, x557001, x557002, x557003, x557004, x558000, x558001, x558002, x558003, x558004 => if x43 = true then (some false) else (orchestratorref21_SameValue.l0 k 0 x557000 x557001 x557002 x557003 x557004 x558000 x558001 x558002 x558003 x558004)
def orchestratorref21_SameValue.l0 : Nat → Int → Int → Int → ByteArray → List (S31) → List (S70) → Int → Int → ByteArray → List (S31) → List (S70) → Option (Bool)
 | 0, _, _, _, _, _, _, _, _, _, _, _ => none
 | k + 1, x5, x557000, x557001, x557002, x557003, x557004, x558000, x558001, x558002, x558003, x558004 => if x5 < (x557003.length : Int) then (if 0 ≤ x5 then (if x5 < (x558003.length : Int) then ((orchestratorref21_SameValue.f k ((rd_T31 x557003 x5).f0) ((rd_T31 x557003 x5).f1) ((rd_T31 x557003 x5).f2) ((rd_T31 x557003 x5).f3) ((rd_T31 x557003 x5).f4) ((rd_T31 x558003 x5).f0) ((rd_T31 x558003 x5).f1) ((rd_T31 x558003 x5).f2) ((rd_T31 x558003 x5).f3) ((rd_T31 x558003 x5).f4)).bind fun t560 => (if t560 = true then (orchestratorref21_SameValue.l0 k (wrap64 (x5 + 1)) x557000 x557001 x557002 x557003 x557004 x558000 x558001 x558002 x558003 x558004) else (some false))) else (none)) else (none)) else (orchestratorref21_SameValue.l1 k 0 x557000 x557001 x557002 x557003 x557004 x558000 x558001 x558002 x558003 x558004)
def orchestratorref21_SameValue.l1 : Nat → Int → Int → Int → ByteArray → List (S31) → List (S70) → Int → Int → ByteArray → List (S31) → List (S70) → Option (Bool)
 | 0, _, _, _, _, _, _, _, _, _, _, _ => none
 | k + 1, x6, x557000, x557001, x557002, x557003, x557004, x558000, x558001, x558002, x558003, x558004 => if x6 < (x557004.length : Int) then (if 0 ≤ x6 then (if x6 < (x558004.length : Int) then (if ((rd_T70 x557004 x6).f0).toList = ((rd_T70 x558004 x6).f0).toList then ((orchestratorref21_SameValue.f k ((rd_T70 x557004 x6).f1.f0) ((rd_T70 x557004 x6).f1.f1) ((rd_T70 x557004 x6).f1.f2) ((rd_T70 x557004 x6).f1.f3) ((rd_T70 x557004 x6).f1.f4) ((rd_T70 x558004 x6).f1.f0) ((rd_T70 x558004 x6).f1.f1) ((rd_T70 x558004 x6).f1.f2) ((rd_T70 x558004 x6).f1.f3) ((rd_T70 x558004 x6).f1.f4)).bind fun t565 => (if t565 = true then (orchestratorref21_SameValue.l1 k (wrap64 (x6 + 1)) x557000 x557001 x557002 x557003 x557004 x558000 x558001 x558002 x558003 x558004) else (some false))) else (some false)) else (none)) else (none)) else (some true)
def orchestratorref21_SameValue.f : Nat → Int → Int → ByteArray → List (S31) → List (S70) → Int → Int → ByteArray → List (S31) → List (S70) → Option (Bool)
 | 0, _, _, _, _, _, _, _, _, _, _ => none
 | k + 1, a0_0, a0_1, a0_2, l0_3, l0_4, a1_0, a1_1, a1_2, l1_3, l1_4 => if a0_0 = a1_0 then (if a0_1 = a1_1 then (if a0_2.toList = a1_2.toList then (if (l0_3.length : Int) = (l1_3.length : Int) then (orchestratorref21_SameValue.j0 k ((l0_4.length : Int) != (l1_4.length : Int)) a0_0 a0_1 a0_2 l0_3 l0_4 a1_0 a1_1 a1_2 l1_3 l1_4) else (orchestratorref21_SameValue.j0 k true a0_0 a0_1 a0_2 l0_3 l0_4 a1_0 a1_1 a1_2 l1_3 l1_4)) else (orchestratorref21_SameValue.j0 k true a0_0 a0_1 a0_2 l0_3 l0_4 a1_0 a1_1 a1_2 l1_3 l1_4)) else (orchestratorref21_SameValue.j0 k true a0_0 a0_1 a0_2 l0_3 l0_4 a1_0 a1_1 a1_2 l1_3 l1_4)) else (orchestratorref21_SameValue.j0 k true a0_0 a0_1 a0_2 l0_3 l0_4 a1_0 a1_1 a1_2 l1_3 l1_4)
end
def orchestratorref21_SameValue.T6 : Bool × List (List Nat × List Nat) := (true, [([], []), ([0], [0]), ([], []), ([1, 2], [1, 2]), ([3], [3]), ([], []), ([5], [5]), ([], []), ([6, 7], [6, 7]), ([8], [8]), ([4, 9], [4, 9]), ([10], [10])])
def orchestratorref21_SameValue.B6 : List Nat := [0, 1, 0, 7, 15, 0, 32, 0, 224, 480, 1023, 2047]
theorem orchestratorref21_SameValue.tab6 : rtab .any (opsOf Try.f22 6) = orchestratorref21_SameValue.T6 := by kernel_rfl
theorem orchestratorref21_SameValue.bits6 : waitsOk orchestratorref21_SameValue.T6.2 orchestratorref21_SameValue.B6 = true := by kernel_rfl
def orchestratorref21_SameValue.T11 : Bool × List (List Nat × List Nat) := (true, [([], []), ([0], [0]), ([], []), ([1, 2], [1, 2]), ([3], [3]), ([4], [4]), ([], []), ([6], [6]), ([], []), ([7, 8], [7, 8]), ([9], [9]), ([10], [10]), ([5, 11], [5, 11]), ([12], [12]), ([13], [13]), ([14, 13], [13, 14]), ([13], [13]), ([15, 16, 13], [13, 15, 16]), ([17, 13], [13, 17]), ([18, 13], [13, 18]), ([13], [13]), ([20, 13], [13, 20]), ([13], [13]), ([21, 22, 13], [13, 21, 22]), ([23, 13], [13, 23]), ([24, 13], [13, 24]), ([19, 25, 13, 13], [13, 19, 25]), ([26, 13], [13, 26]), ([13, 27], [13, 27])])
def orchestratorref21_SameValue.B11 : List Nat := [0, 1, 0, 7, 15, 31, 0, 64, 0, 448, 960, 1984, 4095, 8191, 16383, 32767, 16383, 131071, 262143, 524287, 16383, 1064959, 16383, 7356415, 15745023, 32522239, 67108863, 134217727, 268435455]
theorem orchestratorref21_SameValue.tab11 : rtab .any (opsOf Try.f22 11) = orchestratorref21_SameValue.T11 := by kernel_rfl
theorem orchestratorref21_SameValue.bits11 : waitsOk orchestratorref21_SameValue.T11.2 orchestratorref21_SameValue.B11 = true := by kernel_rfl
set_option maxHeartbeats 8000000 in
set_option maxRecDepth 100000 in
theorem orchestratorref21_SameValue.calls (k : Nat) : ∀ (a0_0 : Int) (a0_1 : Int) (a0_2 : ByteArray) (A0_3 : Option Addr) (c0_3 : Nat) (l0_3 : List (S31)) (A0_4 : Option Addr) (c0_4 : Nat) (l0_4 : List (S70)) (a1_0 : Int) (a1_1 : Int) (a1_2 : ByteArray) (A1_3 : Option Addr) (c1_3 : Nat) (l1_3 : List (S31)) (A1_4 : Option Addr) (c1_4 : Nat) (l1_4 : List (S70)) (r : Bool) (w : World) (hr0_3 : Kd.C k31 w A0_3 l0_3.length l0_3) (hc0_3 : l0_3.length ≤ c0_3) (hr0_4 : Kd.C k70 w A0_4 l0_4.length l0_4) (hc0_4 : l0_4.length ≤ c0_4) (hr1_3 : Kd.C k31 w A1_3 l1_3.length l1_3) (hc1_3 : l1_3.length ≤ c1_3) (hr1_4 : Kd.C k70 w A1_4 l1_4.length l1_4) (hc1_4 : l1_4.length ≤ c1_4) (h : orchestratorref21_SameValue.f k a0_0 a0_1 a0_2 l0_3 l0_4 a1_0 a1_1 a1_2 l1_3 l1_4 = some r),
  Calls Try.prog 22 #[.agg #[.int .i64 a0_0, .int .i64 a0_1, .string a0_2, .slice A0_3 l0_3.length c0_3, .slice A0_4 l0_4.length c0_4], .agg #[.int .i64 a1_0, .int .i64 a1_1, .string a1_2, .slice A1_3 l1_3.length c1_3, .slice A1_4 l1_4.length c1_4]] w fun e w' => e = .returned (.bool r) ∧ Below w.heap.size w w' := by
 induction k using Nat.strongRecOn with
 | _ k ih =>
 intro a0_0 a0_1 a0_2 A0_3 c0_3 l0_3 A0_4 c0_4 l0_4 a1_0 a1_1 a1_2 A1_3 c1_3 l1_3 A1_4 c1_4 l1_4 r w hr0_3 hc0_3 hr0_4 hc0_4 hr1_3 hc1_3 hr1_4 hc1_4 h
 cases k with
 | zero => exact absurd h (by simp [orchestratorref21_SameValue.f])
 | succ k =>
 simp only [orchestratorref21_SameValue.f] at h
 have hu31 := Try.underlying31
 have HR0_3 := s_a hr0_3
 have HC0_3 := s_a hc0_3
 clear hr0_3 hc0_3
 have HR0_4 := s_a hr0_4
 have HC0_4 := s_a hc0_4
 clear hr0_4 hc0_4
 have HR1_3 := s_a hr1_3
 have HC1_3 := s_a hc1_3
 clear hr1_3 hc1_3
 have HR1_4 := s_a hr1_4
 have HC1_4 := s_a hc1_4
 clear hr1_4 hc1_4
 have HB := s_a (Below.refl w.heap.size w)
 have H : (if a0_0 = a1_0 then (if a0_1 = a1_1 then (if a0_2.toList = a1_2.toList then (if (l0_3.length : Int) = (l1_3.length : Int) then (orchestratorref21_SameValue.j0 k ((l0_4.length : Int) != (l1_4.length : Int)) a0_0 a0_1 a0_2 l0_3 l0_4 a1_0 a1_1 a1_2 l1_3 l1_4) else (orchestratorref21_SameValue.j0 k true a0_0 a0_1 a0_2 l0_3 l0_4 a1_0 a1_1 a1_2 l1_3 l1_4)) else (orchestratorref21_SameValue.j0 k true a0_0 a0_1 a0_2 l0_3 l0_4 a1_0 a1_1 a1_2 l1_3 l1_4)) else (orchestratorref21_SameValue.j0 k true a0_0 a0_1 a0_2 l0_3 l0_4 a1_0 a1_1 a1_2 l1_3 l1_4)) else (orchestratorref21_SameValue.j0 k true a0_0 a0_1 a0_2 l0_3 l0_4 a1_0 a1_1 a1_2 l1_3 l1_4)) = some r := h
 clear h
 have HC3 := s_a H
 clear H
 go_enter Try.func22, Try.ntmps22
 go_upto_region 1 with (first | ((with_reducible refine gate_dst (N := 2) rfl ?_); (try (refine gate_guard (by rfl) ?_; dsimp only)); refine box_event ?hg (N := 2) ?hd (cs := #[.int .i64 a0_0, .int .i64 a0_1, .string a0_2, .slice A0_3 l0_3.length c0_3, .slice A0_4 l0_4.length c0_4]) (t := 31) ?hr ?_; (case hd => rfl); (case hg => rfl); (case hr => first | (go_simp; done) | (go_simp; rfl)); intro gb556 hg w4 hbox hb; have BK556 := s_a (hbox); replace HB := s_a (below_step (by exact s_b HB.out) hb); clear hb hbox hg) | ((with_reducible refine gate_dst (N := 3) rfl ?_); (try (refine gate_guard (by rfl) ?_; dsimp only)); refine box_event ?hg (N := 3) ?hd (cs := #[.int .i64 a1_0, .int .i64 a1_1, .string a1_2, .slice A1_3 l1_3.length c1_3, .slice A1_4 l1_4.length c1_4]) (t := 31) ?hr ?_; (case hd => rfl); (case hg => rfl); (case hr => first | (go_simp; done) | (go_simp; rfl)); intro gb557 hg w5 hbox hb; have BK557 := s_a (hbox); have NB556_557 := s_a ((by rw [hg]; exact Nat.ne_of_lt (blk_lt (s_k BK556.out)) : gb556 ≠ gb557)); have NB557_556 := s_a ((by rw [hg]; exact Nat.ne_of_gt (blk_lt (s_k BK556.out)) : gb557 ≠ gb556)); replace BK556 := s_a (blk_below (s_k BK556.out) hb); replace HB := s_a (below_step (by exact s_b HB.out) hb); clear hb hbox hg))
 (try simp only [Act.put, List.setIfInBounds_toArray, List.set_cons_zero, List.set_cons_succ])
 go_cut [43] (fun v43 wc => ∃ (kq : Nat) (x43_2 : Bool), v43 = .bool x43_2 ∧ Aside0 (orchestratorref21_SameValue.j0 kq x43_2 a0_0 a0_1 a0_2 l0_3 l0_4 a1_0 a1_1 a1_2 l1_3 l1_4 = some r) ∧ Aside0 (kq ≤ k) ∧ Aside0 (wc.heap[gb556]? = some (.cells #[.int .i64 a0_0, .int .i64 a0_1, .string a0_2, (.slice A0_3 l0_3.length c0_3), (.slice A0_4 l0_4.length c0_4)] 31 (0, 0))) ∧ Aside0 (wc.heap[gb557]? = some (.cells #[.int .i64 a1_0, .int .i64 a1_1, .string a1_2, (.slice A1_3 l1_3.length c1_3), (.slice A1_4 l1_4.length c1_4)] 31 (0, 0))) ∧ Aside0 (Below w.heap.size w wc))
 case first =>
  have H := HC3.out
  clear HC3
  by_cases c6 : a0_0 = a1_0
  ·rw [if_pos c6] at H
   have c6b0 : (a0_0 == a1_0) = true := beq_iff_eq.mpr c6
   have c6b1 : (a0_0 != a1_0) = false := bne_eq_false_iff_eq.mpr c6
   clear c6
   (first | rw [c6b0] | rw [c6b1] | (simp only [i64_w, i32_w]; rw [c6b0]) | skip)
   by_cases c7 : a0_1 = a1_1
   ·rw [if_pos c7] at H
    have c7b0 : (a0_1 == a1_1) = true := beq_iff_eq.mpr c7
    have c7b1 : (a0_1 != a1_1) = false := bne_eq_false_iff_eq.mpr c7
    clear c7
    by_cases c8 : a0_2.toList = a1_2.toList
    ·rw [if_pos c8] at H
     have c8b0 : (a0_2.toList == a1_2.toList) = true := beq_iff_eq.mpr c8
     have c8b1 : (a0_2.toList != a1_2.toList) = false := bne_eq_false_iff_eq.mpr c8
     clear c8
     by_cases c9 : (l0_3.length : Int) = (l1_3.length : Int)
     ·rw [if_pos c9] at H
      have c9b0 : ((l0_3.length : Int) == (l1_3.length : Int)) = true := beq_iff_eq.mpr c9
      have c9b1 : ((l0_3.length : Int) != (l1_3.length : Int)) = false := bne_eq_false_iff_eq.mpr c9
      have c9b2 : (l0_3.length == l1_3.length) = true := by first | simpa using c9 | (simp at c9 ⊢; omega)
      clear c9
      have H' := s_a H
      clear H
      have hnb10 := NB556_557.out
      have hnc10 := NB557_556.out
      obtain ⟨hcz11_0, hcz11_1, hcz11_2, hcz11_3, hcz11_4⟩ := cells31 BK556.out
      obtain ⟨hcz12_0, hcz12_1, hcz12_2, hcz12_3, hcz12_4⟩ := cells31 BK557.out
      go_wp2
      go_meet
      case rel => exact ⟨_, (((l0_4.length : Int) != (l1_4.length : Int))), (by first | rfl | (simp; done) | (simp [*]; done)), H', ⟨by first | omega | exact Nat.le_refl _⟩, ⟨by exact s_k BK556.out⟩, ⟨by exact s_k BK557.out⟩, ⟨by exact s_b HB.out⟩⟩
     ·rw [if_neg c9] at H
      have c9b0 : ((l0_3.length : Int) == (l1_3.length : Int)) = false := beq_eq_false_iff_ne.mpr c9
      have c9b1 : ((l0_3.length : Int) != (l1_3.length : Int)) = true := bne_iff_ne.mpr c9
      have c9b2 : (l0_3.length == l1_3.length) = false := by first | simpa using c9 | (simp at c9 ⊢; omega)
      have H' := s_a H
      clear H
      have hnb13 := NB556_557.out
      have hnc13 := NB557_556.out
      obtain ⟨hcz14_0, hcz14_1, hcz14_2, hcz14_3, hcz14_4⟩ := cells31 BK556.out
      obtain ⟨hcz15_0, hcz15_1, hcz15_2, hcz15_3, hcz15_4⟩ := cells31 BK557.out
      go_wp2
      go_meet
      case rel => exact ⟨_, (true), (by first | rfl | (simp; done) | (simp [*]; done)), H', ⟨by first | omega | exact Nat.le_refl _⟩, ⟨by exact s_k BK556.out⟩, ⟨by exact s_k BK557.out⟩, ⟨by exact s_b HB.out⟩⟩
    ·rw [if_neg c8] at H
     have c8b0 : (a0_2.toList == a1_2.toList) = false := beq_eq_false_iff_ne.mpr c8
     have c8b1 : (a0_2.toList != a1_2.toList) = true := bne_iff_ne.mpr c8
     have H' := s_a H
     clear H
     have hnb16 := NB556_557.out
     have hnc16 := NB557_556.out
     obtain ⟨hcz17_0, hcz17_1, hcz17_2, hcz17_3, hcz17_4⟩ := cells31 BK556.out
     obtain ⟨hcz18_0, hcz18_1, hcz18_2, hcz18_3, hcz18_4⟩ := cells31 BK557.out
     go_wp2
     go_meet
     case rel => exact ⟨_, (true), (by first | rfl | (simp; done) | (simp [*]; done)), H', ⟨by first | omega | exact Nat.le_refl _⟩, ⟨by exact s_k BK556.out⟩, ⟨by exact s_k BK557.out⟩, ⟨by exact s_b HB.out⟩⟩
   ·rw [if_neg c7] at H
    have c7b0 : (a0_1 == a1_1) = false := beq_eq_false_iff_ne.mpr c7
    have c7b1 : (a0_1 != a1_1) = true := bne_iff_ne.mpr c7
    have H' := s_a H
    clear H
    have hnb19 := NB556_557.out
    have hnc19 := NB557_556.out
    obtain ⟨hcz20_0, hcz20_1, hcz20_2, hcz20_3, hcz20_4⟩ := cells31 BK556.out
    obtain ⟨hcz21_0, hcz21_1, hcz21_2, hcz21_3, hcz21_4⟩ := cells31 BK557.out
    go_wp2
    go_meet
    case rel => exact ⟨_, (true), (by first | rfl | (simp; done) | (simp [*]; done)), H', ⟨by first | omega | exact Nat.le_refl _⟩, ⟨by exact s_k BK556.out⟩, ⟨by exact s_k BK557.out⟩, ⟨by exact s_b HB.out⟩⟩
  ·rw [if_neg c6] at H
   have c6b0 : (a0_0 == a1_0) = false := beq_eq_false_iff_ne.mpr c6
   have c6b1 : (a0_0 != a1_0) = true := bne_iff_ne.mpr c6
   (first | rw [c6b0] | rw [c6b1] | (simp only [i64_w, i32_w]; rw [c6b0]) | skip)
   have H' := s_a H
   clear H
   have hnb22 := NB556_557.out
   have hnc22 := NB557_556.out
   obtain ⟨hcz23_0, hcz23_1, hcz23_2, hcz23_3, hcz23_4⟩ := cells31 BK556.out
   obtain ⟨hcz24_0, hcz24_1, hcz24_2, hcz24_3, hcz24_4⟩ := cells31 BK557.out
   go_wp2
   go_meet
   case rel => exact ⟨_, (true), (by first | rfl | (simp; done) | (simp [*]; done)), H', ⟨by first | omega | exact Nat.le_refl _⟩, ⟨by exact s_k BK556.out⟩, ⟨by exact s_k BK557.out⟩, ⟨by exact s_b HB.out⟩⟩
 case rest =>
  clear HC3
  try clear c1
  try clear c2
  try clear p2
  try clear c6
  try clear c6b0
  try clear c6b1
  try clear c7
  try clear c7b0
  try clear c7b1
  try clear c8
  try clear c8b0
  try clear c8b1
  try clear c9
  try clear c9b0
  try clear c9b1
  try clear c9b2
  try clear c10
  try clear c13
  try clear c16
  try clear c19
  try clear c22
  try clear hcz11_0 hcz11_1 hcz11_2 hcz11_3 hcz11_4
  try clear hcz12_0 hcz12_1 hcz12_2 hcz12_3 hcz12_4
  try clear hcz14_0 hcz14_1 hcz14_2 hcz14_3 hcz14_4
  try clear hcz15_0 hcz15_1 hcz15_2 hcz15_3 hcz15_4
  try clear hcz17_0 hcz17_1 hcz17_2 hcz17_3 hcz17_4
  try clear hcz18_0 hcz18_1 hcz18_2 hcz18_3 hcz18_4
  try clear hcz20_0 hcz20_1 hcz20_2 hcz20_3 hcz20_4
  try clear hcz21_0 hcz21_1 hcz21_2 hcz21_3 hcz21_4
  try clear hcz23_0 hcz23_1 hcz23_2 hcz23_3 hcz23_4
  try clear hcz24_0 hcz24_1 hcz24_2 hcz24_3 hcz24_4
  obtain ⟨kq, x43_2, rfl, HA, HJ2, BK556, BK557, HB⟩ := hcut
  cases kq with
  | zero => exact absurd HA.out (by simp [orchestratorref21_SameValue.j0])
  | succ kj2 =>
   have H := HA.out
   clear HA
   simp only [orchestratorref21_SameValue.j0] at H
   by_cases c25 : x43_2 = true
   ·subst c25
    (try rw [if_pos rfl] at H)
    obtain rfl := Option.some.inj H
    go_wp2
    go_ret
    exact ⟨by first | rfl | (simp [errW_none, errW_some] <;> rfl) | (simp [*, errW_none, errW_some] <;> rfl), by exact s_b HB.out⟩
   ·replace c25 := Bool.eq_false_iff.mpr c25
    subst c25
    (try rw [if_neg (show ¬ (false = true) by decide)] at H)
    have H' := s_a H
    clear H
    go_wp2
    go_loopg [5] kj2 (fun kq v5 w' => ∃ (x5_2 : Int), v5 = .int .i64 x5_2 ∧ Aside0 (orchestratorref21_SameValue.l0 kq x5_2 a0_0 a0_1 a0_2 l0_3 l0_4 a1_0 a1_1 a1_2 l1_3 l1_4 = some r) ∧ Aside0 (kq ≤ kj2) ∧ Aside0 (w'.heap[gb556]? = some (.cells #[.int .i64 a0_0, .int .i64 a0_1, .string a0_2, (.slice A0_3 l0_3.length c0_3), (.slice A0_4 l0_4.length c0_4)] 31 (0, 0))) ∧ Aside0 (w'.heap[gb557]? = some (.cells #[.int .i64 a1_0, .int .i64 a1_1, .string a1_2, (.slice A1_3 l1_3.length c1_3), (.slice A1_4 l1_4.length c1_4)] 31 (0, 0))) ∧ Aside0 (Below w.heap.size w w'))
    case atStart => exact ⟨(0), (by first | rfl | (simp; done) | (simp [*]; done)), H', ⟨Nat.le_refl _⟩, ⟨by exact s_k BK556.out⟩, ⟨by exact s_k BK557.out⟩, ⟨by exact s_b HB.out⟩⟩
    case round =>
     clear H'
     try clear c1
     try clear c2
     try clear p2
     try clear c6
     try clear c6b0
     try clear c6b1
     try clear c7
     try clear c7b0
     try clear c7b1
     try clear c8
     try clear c8b0
     try clear c8b1
     try clear c9
     try clear c9b0
     try clear c9b1
     try clear c9b2
     try clear c10
     try clear c13
     try clear c16
     try clear c19
     try clear c22
     try clear c25
     try clear hcz11_0 hcz11_1 hcz11_2 hcz11_3 hcz11_4
     try clear hcz12_0 hcz12_1 hcz12_2 hcz12_3 hcz12_4
     try clear hcz14_0 hcz14_1 hcz14_2 hcz14_3 hcz14_4
     try clear hcz15_0 hcz15_1 hcz15_2 hcz15_3 hcz15_4
     try clear hcz17_0 hcz17_1 hcz17_2 hcz17_3 hcz17_4
     try clear hcz18_0 hcz18_1 hcz18_2 hcz18_3 hcz18_4
     try clear hcz20_0 hcz20_1 hcz20_2 hcz20_3 hcz20_4
     try clear hcz21_0 hcz21_1 hcz21_2 hcz21_3 hcz21_4
     try clear hcz23_0 hcz23_1 hcz23_2 hcz23_3 hcz23_4
     try clear hcz24_0 hcz24_1 hcz24_2 hcz24_3 hcz24_4
     try clear p2
     obtain ⟨x5_2, rfl, HA, HK2, BK556, BK557, HB⟩ := hrel
     cases gk with
     | zero => exact absurd HA.out (by simp [orchestratorref21_SameValue.l0])
     | succ k2 =>
      have H := HA.out
      clear HA
      simp only [orchestratorref21_SameValue.l0] at H
      by_cases c26 : x5_2 < (l0_3.length : Int)
      ·rw [if_pos c26] at H
       have c26b0 : decide (x5_2 < (l0_3.length : Int)) = true := decide_eq_true c26
       clear c26
       by_cases c27 : 0 ≤ x5_2
       ·rw [if_pos c27] at H
        have c27b0 : decide (0 ≤ x5_2) = true := decide_eq_true c27
        clear c27
        by_cases c28 : x5_2 < (l1_3.length : Int)
        ·rw [if_pos c28] at H
         have c28b0 : decide (x5_2 < (l1_3.length : Int)) = true := decide_eq_true c28
         clear c28
         replace H := Option.bind_eq_some_iff.mp H
         obtain ⟨t560, A290, H⟩ := H
         replace H : (if t560 = true then (orchestratorref21_SameValue.l0 k2 (wrap64 (x5_2 + 1)) a0_0 a0_1 a0_2 l0_3 l0_4 a1_0 a1_1 a1_2 l1_3 l1_4) else (some false)) = some r := H
         have A29 := s_a A290
         clear A290
         by_cases c30 : t560 = true
         ·subst c30
          (try rw [if_pos rfl] at H)
          have H' := s_a H
          clear H
          have hnb31 := NB556_557.out
          have hnc31 := NB557_556.out
          obtain ⟨hcz32_0, hcz32_1, hcz32_2, hcz32_3, hcz32_4⟩ := cells31 BK556.out
          try go_wp2
          replace BK556 := s_a (blk_drew BK556.out)
          replace BK557 := s_a (blk_drew BK557.out)
          replace HB := s_a (below_drew1 HB.out)
          have p558 : 0 ≤ (x5_2 : Int) := of_decide_eq_true (by first | (with_reducible assumption) | assumption)
          have q558 : x5_2 < (l0_3.length : Int) := of_decide_eq_true (by first | (with_reducible assumption) | assumption)
          obtain ⟨ad558, A558_3, c558_3, A558_4, c558_4, e558, hx558_0, hx558_1, hx558_2, hx558_3, hx558_4, hl558_3, hi558_3, hl558_4, hi558_4⟩ := at_T31 HR0_3.out x5_2 p558 q558
          have hw558_4 := hx558_4
          have hw558_3 := hx558_3
          have hw558_2 := hx558_2
          have hw558_1 := hx558_1
          have hw558_0 := hx558_0
          cases e558
          replace hx558_0 := s_m HB.out hx558_0
          replace hx558_1 := s_m HB.out hx558_1
          replace hx558_2 := s_m HB.out hx558_2
          replace hx558_3 := s_m HB.out hx558_3
          replace hx558_4 := s_m HB.out hx558_4
          have HR558_3 := s_a hi558_3
          have HC558_3 := s_a hl558_3
          clear hi558_3 hl558_3
          have HR558_4 := s_a hi558_4
          have HC558_4 := s_a hl558_4
          clear hi558_4 hl558_4
          replace p558 := eq_true p558
          replace q558 := eq_true q558
          have p559 : 0 ≤ (x5_2 : Int) := of_decide_eq_true (by first | (with_reducible assumption) | assumption)
          have q559 : x5_2 < (l1_3.length : Int) := of_decide_eq_true (by first | (with_reducible assumption) | assumption)
          obtain ⟨ad559, A559_3, c559_3, A559_4, c559_4, e559, hx559_0, hx559_1, hx559_2, hx559_3, hx559_4, hl559_3, hi559_3, hl559_4, hi559_4⟩ := at_T31 HR1_3.out x5_2 p559 q559
          have hw559_4 := hx559_4
          have hw559_3 := hx559_3
          have hw559_2 := hx559_2
          have hw559_1 := hx559_1
          have hw559_0 := hx559_0
          cases e559
          replace hx559_0 := s_m HB.out hx559_0
          replace hx559_1 := s_m HB.out hx559_1
          replace hx559_2 := s_m HB.out hx559_2
          replace hx559_3 := s_m HB.out hx559_3
          replace hx559_4 := s_m HB.out hx559_4
          have HR559_3 := s_a hi559_3
          have HC559_3 := s_a hl559_3
          clear hi559_3 hl559_3
          have HR559_4 := s_a hi559_4
          have HC559_4 := s_a hl559_4
          clear hi559_4 hl559_4
          replace p559 := eq_true p559
          replace q559 := eq_true q559
          refine start_ (n := 12) (S := fun w' => w'.cell? ⟨gb556, 3, none⟩ = some (.slice (some ad558) l0_3.length c0_3) ∧ w'.cell? ⟨gb557, 3, none⟩ = some (.slice (some ad559) l1_3.length c1_3) ∧ w'.cell? (ad558.add ((x5_2).toNat * 5)) = some (.int .i64 ((rd_T31 l0_3 x5_2).f0)) ∧ w'.cell? ⟨(ad558.add ((x5_2).toNat * 5)).block, (ad558.add ((x5_2).toNat * 5)).off + 1, none⟩ = some (.int .i64 ((rd_T31 l0_3 x5_2).f1)) ∧ w'.cell? ⟨(ad558.add ((x5_2).toNat * 5)).block, (ad558.add ((x5_2).toNat * 5)).off + 2, none⟩ = some (.string ((rd_T31 l0_3 x5_2).f2)) ∧ w'.cell? ⟨(ad558.add ((x5_2).toNat * 5)).block, (ad558.add ((x5_2).toNat * 5)).off + 3, none⟩ = some (.slice A558_3 ((rd_T31 l0_3 x5_2).f3).length c558_3) ∧ w'.cell? ⟨(ad558.add ((x5_2).toNat * 5)).block, (ad558.add ((x5_2).toNat * 5)).off + 4, none⟩ = some (.slice A558_4 ((rd_T31 l0_3 x5_2).f4).length c558_4) ∧ w'.cell? (ad559.add ((x5_2).toNat * 5)) = some (.int .i64 ((rd_T31 l1_3 x5_2).f0)) ∧ w'.cell? ⟨(ad559.add ((x5_2).toNat * 5)).block, (ad559.add ((x5_2).toNat * 5)).off + 1, none⟩ = some (.int .i64 ((rd_T31 l1_3 x5_2).f1)) ∧ w'.cell? ⟨(ad559.add ((x5_2).toNat * 5)).block, (ad559.add ((x5_2).toNat * 5)).off + 2, none⟩ = some (.string ((rd_T31 l1_3 x5_2).f2)) ∧ w'.cell? ⟨(ad559.add ((x5_2).toNat * 5)).block, (ad559.add ((x5_2).toNat * 5)).off + 3, none⟩ = some (.slice A559_3 ((rd_T31 l1_3 x5_2).f3).length c559_3) ∧ w'.cell? ⟨(ad559.add ((x5_2).toNat * 5)).block, (ad559.add ((x5_2).toNat * 5)).off + 4, none⟩ = some (.slice A559_4 ((rd_T31 l1_3 x5_2).f4).length c559_4)) (ds := []) (bz 12 0) (by kernel_rfl) rfl rfl ⟨s_x BK556.out 3, s_x BK557.out 3, (s_m HB.out hw558_0), (s_m HB.out hw558_1), (s_m HB.out hw558_2), (s_m HB.out hw558_3), (s_m HB.out hw558_4), (s_m HB.out hw559_0), (s_m HB.out hw559_1), (s_m HB.out hw559_2), (s_m HB.out hw559_3), (s_m HB.out hw559_4)⟩ (fun hHeld => ?_); refine with_tabW orchestratorref21_SameValue.tab6 orchestratorref21_SameValue.bits6 (fun HT_ HW_ => ?_)
          generalize wr.drew = w33 at BK556 BK557 HB HR558_3 HR558_4 HR559_3 HR559_4 hx558_0 hx558_1 hx558_2 hx558_3 hx558_4 hx559_0 hx559_1 hx559_2 hx559_3 hx559_4 hHeld ⊢
          refine q_p 0 (some 51) (bz 12 1) (any_of HT_.out (by kernel_rfl)) (v := ?_) ?_ (a' := ?_) ?_ ?_; rotate_left 2
          ·intro w'; go_simp; with_reducible rfl
          ·simp only [Act.put, List.setIfInBounds_toArray, List.set_cons_zero, List.set_cons_succ, i64_w, i32_w]; rfl
          refine q_p 2 (some 53) (bz 12 5) (any_of HT_.out (by kernel_rfl)) (v := ?_) ?_ (a' := ?_) ?_ ?_; rotate_left 2
          ·intro w'; go_simp; with_reducible rfl
          ·simp only [Act.put, List.setIfInBounds_toArray, List.set_cons_zero, List.set_cons_succ, i64_w, i32_w]; rfl
          refine q_p 5 (some 56) (bz 12 37) (any_of HT_.out (by kernel_rfl)) (v := ?_) ?_ (a' := ?_) ?_ ?_; rotate_left 2
          ·intro w'; go_simp; with_reducible rfl
          ·simp only [Act.put, List.setIfInBounds_toArray, List.set_cons_zero, List.set_cons_succ, i64_w, i32_w]; rfl
          refine q_p 7 (some 58) (bz 12 165) (any_of HT_.out (by kernel_rfl)) (v := ?_) ?_ (a' := ?_) ?_ ?_; rotate_left 2
          ·intro w'; go_simp; with_reducible rfl
          ·simp only [Act.put, List.setIfInBounds_toArray, List.set_cons_zero, List.set_cons_succ, i64_w, i32_w]; rfl
          refine q_t 1 (some 52) (bz 12 167) (take_ofW HT_.out HW_.out (by kernel_rfl)) hHeld (v := ?_) ?_ (a' := ?_) ?_ ?_; rotate_left 2
          ·rintro w' ⟨s0, s1, s2, s3, s4, s5, s6, s7, s8, s9, s10, s11⟩; go_simp; with_reducible rfl
          ·simp only [Act.put, List.setIfInBounds_toArray, List.set_cons_zero, List.set_cons_succ, i64_w, i32_w]; rfl
          refine q_p 3 (some 54) (bz 12 175) (any_of HT_.out (by kernel_rfl)) (v := ?_) ?_ (a' := ?_) ?_ ?_; rotate_left 2
          ·intro w'; go_simp; with_reducible rfl
          ·simp only [Act.put, List.setIfInBounds_toArray, List.set_cons_zero, List.set_cons_succ, i64_w, i32_w]; rfl
          refine q_t 4 (some 55) (bz 12 191) (take_ofW HT_.out HW_.out (by kernel_rfl)) hHeld (v := ?_) ?_ (a' := ?_) ?_ ?_; rotate_left 2
          ·rintro w' ⟨s0, s1, s2, s3, s4, s5, s6, s7, s8, s9, s10, s11⟩; (refine (s_ld rfl 31 (.tmp 54) ?_ _ ?_ _ _ (cells_at s2 (s_cc s3 (s_cc s4 (s_cc s5 (s_cc s6 s_cn))))) Try.underlying31 (by rfl) sz31).trans ?_ <;> first | (with_reducible rfl) | rfl)
          ·simp only [Act.put, List.setIfInBounds_toArray, List.set_cons_zero, List.set_cons_succ, i64_w, i32_w]; rfl
          refine q_t 6 (some 57) (bz 12 255) (take_ofW HT_.out HW_.out (by kernel_rfl)) hHeld (v := ?_) ?_ (a' := ?_) ?_ ?_; rotate_left 2
          ·rintro w' ⟨s0, s1, s2, s3, s4, s5, s6, s7, s8, s9, s10, s11⟩; go_simp; with_reducible rfl
          ·simp only [Act.put, List.setIfInBounds_toArray, List.set_cons_zero, List.set_cons_succ, i64_w, i32_w]; rfl
          refine q_p 8 (some 59) (bz 12 511) (any_of HT_.out (by kernel_rfl)) (v := ?_) ?_ (a' := ?_) ?_ ?_; rotate_left 2
          ·intro w'; go_simp; with_reducible rfl
          ·simp only [Act.put, List.setIfInBounds_toArray, List.set_cons_zero, List.set_cons_succ, i64_w, i32_w]; rfl
          refine q_t 9 (some 60) (bz 12 1023) (take_ofW HT_.out HW_.out (by kernel_rfl)) hHeld (v := ?_) ?_ (a' := ?_) ?_ ?_; rotate_left 2
          ·rintro w' ⟨s0, s1, s2, s3, s4, s5, s6, s7, s8, s9, s10, s11⟩; (refine (s_ld rfl 31 (.tmp 59) ?_ _ ?_ _ _ (cells_at s7 (s_cc s8 (s_cc s9 (s_cc s10 (s_cc s11 s_cn))))) Try.underlying31 (by rfl) sz31).trans ?_ <;> first | (with_reducible rfl) | rfl)
          ·simp only [Act.put, List.setIfInBounds_toArray, List.set_cons_zero, List.set_cons_succ, i64_w, i32_w]; rfl
          refine one_ (i := 10) (N := some 61) (bz 12 2047) rfl rfl (one_of HT_.out (by kernel_rfl)) (by decide) (fun K hK => ?_)
          refine goes_ Try.func22 (by kernel_rfl) rfl #[.agg #[.int .i64 ((rd_T31 l0_3 x5_2).f0), .int .i64 ((rd_T31 l0_3 x5_2).f1), .string ((rd_T31 l0_3 x5_2).f2), .slice A558_3 ((rd_T31 l0_3 x5_2).f3).length c558_3, .slice A558_4 ((rd_T31 l0_3 x5_2).f4).length c558_4], .agg #[.int .i64 ((rd_T31 l1_3 x5_2).f0), .int .i64 ((rd_T31 l1_3 x5_2).f1), .string ((rd_T31 l1_3 x5_2).f2), .slice A559_3 ((rd_T31 l1_3 x5_2).f3).length c559_3, .slice A559_4 ((rd_T31 l1_3 x5_2).f4).length c559_4]] (by rfl) rfl rfl (by (try simp only [List.map_toArray, List.map_cons, List.map_nil]); first | done | rfl | (simp only [List.length_drop, List.length_take]; rfl)) ?_
          with_reducible refine (ih k2 (by have := HJ2.out; have := HK2.out; omega) _ _ _ _ _ _ _ _ _ _ _ _ _ _ _ _ _ _ _ _ ?side1 ?side2 ?side3 ?side4 ?side5 ?side6 ?side7 ?side8 A29.out).mono ?_
          (case side1 => exact s_D HR558_3.out HB.out)
          (case side2 => exact HC558_3.out)
          (case side3 => exact s_D HR558_4.out HB.out)
          (case side4 => exact HC558_4.out)
          (case side5 => exact s_D HR559_3.out HB.out)
          (case side6 => exact HC559_3.out)
          (case side7 => exact s_D HR559_4.out HB.out)
          (case side8 => exact HC559_4.out)
          rintro e w34 ⟨rfl, hb⟩
          refine ⟨_, rfl, ?_⟩
          replace BK556 := s_a (blk_below (s_k BK556.out) hb)
          replace BK557 := s_a (blk_below (s_k BK557.out) hb)
          replace HB := s_a (below_step (by exact s_b HB.out) hb)
          (try clear hb)
          refine hK.out _ _ ⟨s_x BK556.out 3, s_x BK557.out 3, (s_m HB.out hw558_0), (s_m HB.out hw558_1), (s_m HB.out hw558_2), (s_m HB.out hw558_3), (s_m HB.out hw558_4), (s_m HB.out hw559_0), (s_m HB.out hw559_1), (s_m HB.out hw559_2), (s_m HB.out hw559_3), (s_m HB.out hw559_4)⟩ (fun hHeld => ?_)
          clear hK K
          refine norm_ (a' := ?_) ?_ ?_
          rotate_left
          ·show Act.put _ (some 61) _ = _
           simp only [Act.put, List.setIfInBounds_toArray, List.set_cons_zero, List.set_cons_succ, i64_w, i32_w]
           rfl
          refine q_p 11 (some 62) (bz 12 4095) (any_of HT_.out (by kernel_rfl)) (v := ?_) ?_ (a' := ?_) ?_ ?_; rotate_left 2
          ·intro w'; go_simp; with_reducible rfl
          ·simp only [Act.put, List.setIfInBounds_toArray, List.set_cons_zero, List.set_cons_succ, i64_w, i32_w]; rfl
          refine done_ (done_of HT_.out (by kernel_rfl)) ?_
          try go_wp2
          go_roundg k2
          case measure => have := HJ2.out; have := HK2.out; omega
          case rel => exact ⟨(wrap64 (x5_2 + 1)), (by first | rfl | (simp; done) | (simp [*]; done)), H', ⟨by have := HJ2.out; have := HK2.out; omega⟩, ⟨by exact s_k BK556.out⟩, ⟨by exact s_k BK557.out⟩, ⟨by exact s_b HB.out⟩⟩
         ·replace c30 := Bool.eq_false_iff.mpr c30
          subst c30
          (try rw [if_neg (show ¬ (false = true) by decide)] at H)
          obtain rfl := Option.some.inj H
          have hnb35 := NB556_557.out
          have hnc35 := NB557_556.out
          obtain ⟨hcz36_0, hcz36_1, hcz36_2, hcz36_3, hcz36_4⟩ := cells31 BK556.out
          try go_wp2
          replace BK556 := s_a (blk_drew BK556.out)
          replace BK557 := s_a (blk_drew BK557.out)
          replace HB := s_a (below_drew1 HB.out)
          have p558 : 0 ≤ (x5_2 : Int) := of_decide_eq_true (by first | (with_reducible assumption) | assumption)
          have q558 : x5_2 < (l0_3.length : Int) := of_decide_eq_true (by first | (with_reducible assumption) | assumption)
          obtain ⟨ad558, A558_3, c558_3, A558_4, c558_4, e558, hx558_0, hx558_1, hx558_2, hx558_3, hx558_4, hl558_3, hi558_3, hl558_4, hi558_4⟩ := at_T31 HR0_3.out x5_2 p558 q558
          have hw558_4 := hx558_4
          have hw558_3 := hx558_3
          have hw558_2 := hx558_2
          have hw558_1 := hx558_1
          have hw558_0 := hx558_0
          cases e558
          replace hx558_0 := s_m HB.out hx558_0
          replace hx558_1 := s_m HB.out hx558_1
          replace hx558_2 := s_m HB.out hx558_2
          replace hx558_3 := s_m HB.out hx558_3
          replace hx558_4 := s_m HB.out hx558_4
          have HR558_3 := s_a hi558_3
          have HC558_3 := s_a hl558_3
          clear hi558_3 hl558_3
          have HR558_4 := s_a hi558_4
          have HC558_4 := s_a hl558_4
          clear hi558_4 hl558_4
          replace p558 := eq_true p558
          replace q558 := eq_true q558
          have p559 : 0 ≤ (x5_2 : Int) := of_decide_eq_true (by first | (with_reducible assumption) | assumption)
          have q559 : x5_2 < (l1_3.length : Int) := of_decide_eq_true (by first | (with_reducible assumption) | assumption)
          obtain ⟨ad559, A559_3, c559_3, A559_4, c559_4, e559, hx559_0, hx559_1, hx559_2, hx559_3, hx559_4, hl559_3, hi559_3, hl559_4, hi559_4⟩ := at_T31 HR1_3.out x5_2 p559 q559
          have hw559_4 := hx559_4
          have hw559_3 := hx559_3
          have hw559_2 := hx559_2
          have hw559_1 := hx559_1
          have hw559_0 := hx559_0
          cases e559
          replace hx559_0 := s_m HB.out hx559_0
          replace hx559_1 := s_m HB.out hx559_1
          replace hx559_2 := s_m HB.out hx559_2
          replace hx559_3 := s_m HB.out hx559_3
          replace hx559_4 := s_m HB.out hx559_4
          have HR559_3 := s_a hi559_3
          have HC559_3 := s_a hl559_3
          clear hi559_3 hl559_3
          have HR559_4 := s_a hi559_4
          have HC559_4 := s_a hl559_4
          clear hi559_4 hl559_4
          replace p559 := eq_true p559
          replace q559 := eq_true q559
          refine start_ (n := 12) (S := fun w' => w'.cell? ⟨gb556, 3, none⟩ = some (.slice (some ad558) l0_3.length c0_3) ∧ w'.cell? ⟨gb557, 3, none⟩ = some (.slice (some ad559) l1_3.length c1_3) ∧ w'.cell? (ad558.add ((x5_2).toNat * 5)) = some (.int .i64 ((rd_T31 l0_3 x5_2).f0)) ∧ w'.cell? ⟨(ad558.add ((x5_2).toNat * 5)).block, (ad558.add ((x5_2).toNat * 5)).off + 1, none⟩ = some (.int .i64 ((rd_T31 l0_3 x5_2).f1)) ∧ w'.cell? ⟨(ad558.add ((x5_2).toNat * 5)).block, (ad558.add ((x5_2).toNat * 5)).off + 2, none⟩ = some (.string ((rd_T31 l0_3 x5_2).f2)) ∧ w'.cell? ⟨(ad558.add ((x5_2).toNat * 5)).block, (ad558.add ((x5_2).toNat * 5)).off + 3, none⟩ = some (.slice A558_3 ((rd_T31 l0_3 x5_2).f3).length c558_3) ∧ w'.cell? ⟨(ad558.add ((x5_2).toNat * 5)).block, (ad558.add ((x5_2).toNat * 5)).off + 4, none⟩ = some (.slice A558_4 ((rd_T31 l0_3 x5_2).f4).length c558_4) ∧ w'.cell? (ad559.add ((x5_2).toNat * 5)) = some (.int .i64 ((rd_T31 l1_3 x5_2).f0)) ∧ w'.cell? ⟨(ad559.add ((x5_2).toNat * 5)).block, (ad559.add ((x5_2).toNat * 5)).off + 1, none⟩ = some (.int .i64 ((rd_T31 l1_3 x5_2).f1)) ∧ w'.cell? ⟨(ad559.add ((x5_2).toNat * 5)).block, (ad559.add ((x5_2).toNat * 5)).off + 2, none⟩ = some (.string ((rd_T31 l1_3 x5_2).f2)) ∧ w'.cell? ⟨(ad559.add ((x5_2).toNat * 5)).block, (ad559.add ((x5_2).toNat * 5)).off + 3, none⟩ = some (.slice A559_3 ((rd_T31 l1_3 x5_2).f3).length c559_3) ∧ w'.cell? ⟨(ad559.add ((x5_2).toNat * 5)).block, (ad559.add ((x5_2).toNat * 5)).off + 4, none⟩ = some (.slice A559_4 ((rd_T31 l1_3 x5_2).f4).length c559_4)) (ds := []) (bz 12 0) (by kernel_rfl) rfl rfl ⟨s_x BK556.out 3, s_x BK557.out 3, (s_m HB.out hw558_0), (s_m HB.out hw558_1), (s_m HB.out hw558_2), (s_m HB.out hw558_3), (s_m HB.out hw558_4), (s_m HB.out hw559_0), (s_m HB.out hw559_1), (s_m HB.out hw559_2), (s_m HB.out hw559_3), (s_m HB.out hw559_4)⟩ (fun hHeld => ?_); refine with_tabW orchestratorref21_SameValue.tab6 orchestratorref21_SameValue.bits6 (fun HT_ HW_ => ?_)
          generalize wr.drew = w37 at BK556 BK557 HB HR558_3 HR558_4 HR559_3 HR559_4 hx558_0 hx558_1 hx558_2 hx558_3 hx558_4 hx559_0 hx559_1 hx559_2 hx559_3 hx559_4 hHeld ⊢
          refine q_p 0 (some 51) (bz 12 1) (any_of HT_.out (by kernel_rfl)) (v := ?_) ?_ (a' := ?_) ?_ ?_; rotate_left 2
          ·intro w'; go_simp; with_reducible rfl
          ·simp only [Act.put, List.setIfInBounds_toArray, List.set_cons_zero, List.set_cons_succ, i64_w, i32_w]; rfl
          refine q_p 2 (some 53) (bz 12 5) (any_of HT_.out (by kernel_rfl)) (v := ?_) ?_ (a' := ?_) ?_ ?_; rotate_left 2
          ·intro w'; go_simp; with_reducible rfl
          ·simp only [Act.put, List.setIfInBounds_toArray, List.set_cons_zero, List.set_cons_succ, i64_w, i32_w]; rfl
          refine q_p 5 (some 56) (bz 12 37) (any_of HT_.out (by kernel_rfl)) (v := ?_) ?_ (a' := ?_) ?_ ?_; rotate_left 2
          ·intro w'; go_simp; with_reducible rfl
          ·simp only [Act.put, List.setIfInBounds_toArray, List.set_cons_zero, List.set_cons_succ, i64_w, i32_w]; rfl
          refine q_p 7 (some 58) (bz 12 165) (any_of HT_.out (by kernel_rfl)) (v := ?_) ?_ (a' := ?_) ?_ ?_; rotate_left 2
          ·intro w'; go_simp; with_reducible rfl
          ·simp only [Act.put, List.setIfInBounds_toArray, List.set_cons_zero, List.set_cons_succ, i64_w, i32_w]; rfl
          refine q_t 1 (some 52) (bz 12 167) (take_ofW HT_.out HW_.out (by kernel_rfl)) hHeld (v := ?_) ?_ (a' := ?_) ?_ ?_; rotate_left 2
          ·rintro w' ⟨s0, s1, s2, s3, s4, s5, s6, s7, s8, s9, s10, s11⟩; go_simp; with_reducible rfl
          ·simp only [Act.put, List.setIfInBounds_toArray, List.set_cons_zero, List.set_cons_succ, i64_w, i32_w]; rfl
          refine q_p 3 (some 54) (bz 12 175) (any_of HT_.out (by kernel_rfl)) (v := ?_) ?_ (a' := ?_) ?_ ?_; rotate_left 2
          ·intro w'; go_simp; with_reducible rfl
          ·simp only [Act.put, List.setIfInBounds_toArray, List.set_cons_zero, List.set_cons_succ, i64_w, i32_w]; rfl
          refine q_t 4 (some 55) (bz 12 191) (take_ofW HT_.out HW_.out (by kernel_rfl)) hHeld (v := ?_) ?_ (a' := ?_) ?_ ?_; rotate_left 2
          ·rintro w' ⟨s0, s1, s2, s3, s4, s5, s6, s7, s8, s9, s10, s11⟩; (refine (s_ld rfl 31 (.tmp 54) ?_ _ ?_ _ _ (cells_at s2 (s_cc s3 (s_cc s4 (s_cc s5 (s_cc s6 s_cn))))) Try.underlying31 (by rfl) sz31).trans ?_ <;> first | (with_reducible rfl) | rfl)
          ·simp only [Act.put, List.setIfInBounds_toArray, List.set_cons_zero, List.set_cons_succ, i64_w, i32_w]; rfl
          refine q_t 6 (some 57) (bz 12 255) (take_ofW HT_.out HW_.out (by kernel_rfl)) hHeld (v := ?_) ?_ (a' := ?_) ?_ ?_; rotate_left 2
          ·rintro w' ⟨s0, s1, s2, s3, s4, s5, s6, s7, s8, s9, s10, s11⟩; go_simp; with_reducible rfl
          ·simp only [Act.put, List.setIfInBounds_toArray, List.set_cons_zero, List.set_cons_succ, i64_w, i32_w]; rfl
          refine q_p 8 (some 59) (bz 12 511) (any_of HT_.out (by kernel_rfl)) (v := ?_) ?_ (a' := ?_) ?_ ?_; rotate_left 2
          ·intro w'; go_simp; with_reducible rfl
          ·simp only [Act.put, List.setIfInBounds_toArray, List.set_cons_zero, List.set_cons_succ, i64_w, i32_w]; rfl
          refine q_t 9 (some 60) (bz 12 1023) (take_ofW HT_.out HW_.out (by kernel_rfl)) hHeld (v := ?_) ?_ (a' := ?_) ?_ ?_; rotate_left 2
          ·rintro w' ⟨s0, s1, s2, s3, s4, s5, s6, s7, s8, s9, s10, s11⟩; (refine (s_ld rfl 31 (.tmp 59) ?_ _ ?_ _ _ (cells_at s7 (s_cc s8 (s_cc s9 (s_cc s10 (s_cc s11 s_cn))))) Try.underlying31 (by rfl) sz31).trans ?_ <;> first | (with_reducible rfl) | rfl)
          ·simp only [Act.put, List.setIfInBounds_toArray, List.set_cons_zero, List.set_cons_succ, i64_w, i32_w]; rfl
          refine one_ (i := 10) (N := some 61) (bz 12 2047) rfl rfl (one_of HT_.out (by kernel_rfl)) (by decide) (fun K hK => ?_)
          refine goes_ Try.func22 (by kernel_rfl) rfl #[.agg #[.int .i64 ((rd_T31 l0_3 x5_2).f0), .int .i64 ((rd_T31 l0_3 x5_2).f1), .string ((rd_T31 l0_3 x5_2).f2), .slice A558_3 ((rd_T31 l0_3 x5_2).f3).length c558_3, .slice A558_4 ((rd_T31 l0_3 x5_2).f4).length c558_4], .agg #[.int .i64 ((rd_T31 l1_3 x5_2).f0), .int .i64 ((rd_T31 l1_3 x5_2).f1), .string ((rd_T31 l1_3 x5_2).f2), .slice A559_3 ((rd_T31 l1_3 x5_2).f3).length c559_3, .slice A559_4 ((rd_T31 l1_3 x5_2).f4).length c559_4]] (by rfl) rfl rfl (by (try simp only [List.map_toArray, List.map_cons, List.map_nil]); first | done | rfl | (simp only [List.length_drop, List.length_take]; rfl)) ?_
          with_reducible refine (ih k2 (by have := HJ2.out; have := HK2.out; omega) _ _ _ _ _ _ _ _ _ _ _ _ _ _ _ _ _ _ _ _ ?side1 ?side2 ?side3 ?side4 ?side5 ?side6 ?side7 ?side8 A29.out).mono ?_
          (case side1 => exact s_D HR558_3.out HB.out)
          (case side2 => exact HC558_3.out)
          (case side3 => exact s_D HR558_4.out HB.out)
          (case side4 => exact HC558_4.out)
          (case side5 => exact s_D HR559_3.out HB.out)
          (case side6 => exact HC559_3.out)
          (case side7 => exact s_D HR559_4.out HB.out)
          (case side8 => exact HC559_4.out)
          rintro e w38 ⟨rfl, hb⟩
          refine ⟨_, rfl, ?_⟩
          replace BK556 := s_a (blk_below (s_k BK556.out) hb)
          replace BK557 := s_a (blk_below (s_k BK557.out) hb)
          replace HB := s_a (below_step (by exact s_b HB.out) hb)
          (try clear hb)
          refine hK.out _ _ ⟨s_x BK556.out 3, s_x BK557.out 3, (s_m HB.out hw558_0), (s_m HB.out hw558_1), (s_m HB.out hw558_2), (s_m HB.out hw558_3), (s_m HB.out hw558_4), (s_m HB.out hw559_0), (s_m HB.out hw559_1), (s_m HB.out hw559_2), (s_m HB.out hw559_3), (s_m HB.out hw559_4)⟩ (fun hHeld => ?_)
          clear hK K
          refine norm_ (a' := ?_) ?_ ?_
          rotate_left
          ·show Act.put _ (some 61) _ = _
           simp only [Act.put, List.setIfInBounds_toArray, List.set_cons_zero, List.set_cons_succ, i64_w, i32_w]
           rfl
          refine q_p 11 (some 62) (bz 12 4095) (any_of HT_.out (by kernel_rfl)) (v := ?_) ?_ (a' := ?_) ?_ ?_; rotate_left 2
          ·intro w'; go_simp; with_reducible rfl
          ·simp only [Act.put, List.setIfInBounds_toArray, List.set_cons_zero, List.set_cons_succ, i64_w, i32_w]; rfl
          refine done_ (done_of HT_.out (by kernel_rfl)) ?_
          try go_wp2
          go_ret
          exact ⟨by first | rfl | (simp [errW_none, errW_some] <;> rfl) | (simp [*, errW_none, errW_some] <;> rfl), by exact s_b HB.out⟩
        ·rw [if_neg c28] at H
         exact absurd H (by simp)
       ·rw [if_neg c27] at H
        exact absurd H (by simp)
      ·rw [if_neg c26] at H
       have c26b0 : decide (x5_2 < (l0_3.length : Int)) = false := decide_eq_false c26
       clear c26
       have H' := s_a H
       clear H
       have hnb39 := NB556_557.out
       have hnc39 := NB557_556.out
       obtain ⟨hcz40_0, hcz40_1, hcz40_2, hcz40_3, hcz40_4⟩ := cells31 BK556.out
       go_wp2
       go_loopg [6] k2 (fun kq v6 w' => ∃ (x6_3 : Int), v6 = .int .i64 x6_3 ∧ Aside0 (orchestratorref21_SameValue.l1 kq x6_3 a0_0 a0_1 a0_2 l0_3 l0_4 a1_0 a1_1 a1_2 l1_3 l1_4 = some r) ∧ Aside0 (kq ≤ k2) ∧ Aside0 (w'.heap[gb556]? = some (.cells #[.int .i64 a0_0, .int .i64 a0_1, .string a0_2, (.slice A0_3 l0_3.length c0_3), (.slice A0_4 l0_4.length c0_4)] 31 (0, 0))) ∧ Aside0 (w'.heap[gb557]? = some (.cells #[.int .i64 a1_0, .int .i64 a1_1, .string a1_2, (.slice A1_3 l1_3.length c1_3), (.slice A1_4 l1_4.length c1_4)] 31 (0, 0))) ∧ Aside0 (Below w.heap.size w w'))
       case atStart => exact ⟨(0), (by first | rfl | (simp; done) | (simp [*]; done)), H', ⟨Nat.le_refl _⟩, ⟨by exact s_k BK556.out⟩, ⟨by exact s_k BK557.out⟩, ⟨by exact s_b HB.out⟩⟩
       case round =>
        clear H'
        try clear c1
        try clear c2
        try clear p2
        try clear c3
        try clear c5
        try clear p5
        try clear q5
        try clear hx5
        try clear c6
        try clear c6b0
        try clear c6b1
        try clear p6
        try clear c7
        try clear c7b0
        try clear c7b1
        try clear c8
        try clear c8b0
        try clear c8b1
        try clear c9
        try clear c9b0
        try clear c9b1
        try clear c9b2
        try clear c10
        try clear c13
        try clear c16
        try clear c19
        try clear c22
        try clear c25
        try clear c26
        try clear c26b0
        try clear c27
        try clear c27b0
        try clear c28
        try clear c28b0
        try clear c30
        try clear c31
        try clear c35
        try clear c39
        try clear hcz11_0 hcz11_1 hcz11_2 hcz11_3 hcz11_4
        try clear hcz12_0 hcz12_1 hcz12_2 hcz12_3 hcz12_4
        try clear hcz14_0 hcz14_1 hcz14_2 hcz14_3 hcz14_4
        try clear hcz15_0 hcz15_1 hcz15_2 hcz15_3 hcz15_4
        try clear hcz17_0 hcz17_1 hcz17_2 hcz17_3 hcz17_4
        try clear hcz18_0 hcz18_1 hcz18_2 hcz18_3 hcz18_4
        try clear hcz20_0 hcz20_1 hcz20_2 hcz20_3 hcz20_4
        try clear hcz21_0 hcz21_1 hcz21_2 hcz21_3 hcz21_4
        try clear hcz23_0 hcz23_1 hcz23_2 hcz23_3 hcz23_4
        try clear hcz24_0 hcz24_1 hcz24_2 hcz24_3 hcz24_4
        try clear hcz32_0 hcz32_1 hcz32_2 hcz32_3 hcz32_4
        try clear hcz36_0 hcz36_1 hcz36_2 hcz36_3 hcz36_4
        try clear hcz40_0 hcz40_1 hcz40_2 hcz40_3 hcz40_4
        try clear hx558_0
        try clear hx558_1
        try clear hx558_2
        try clear hx558_3
        try clear hx558_4
        try clear hx559_0
        try clear hx559_1
        try clear hx559_2
        try clear hx559_3
        try clear hx559_4
        try clear p2
        try clear p558
        try clear p559
        try clear q558
        try clear q559
        obtain ⟨x6_3, rfl, HA, HK3, BK556, BK557, HB⟩ := hrel
        cases gk with
        | zero => exact absurd HA.out (by simp [orchestratorref21_SameValue.l1])
        | succ k3 =>
         have H := HA.out
         clear HA
         simp only [orchestratorref21_SameValue.l1] at H
         by_cases c41 : x6_3 < (l0_4.length : Int)
         ·rw [if_pos c41] at H
          have c41b0 : decide (x6_3 < (l0_4.length : Int)) = true := decide_eq_true c41
          clear c41
          by_cases c42 : 0 ≤ x6_3
          ·rw [if_pos c42] at H
           have c42b0 : decide (0 ≤ x6_3) = true := decide_eq_true c42
           clear c42
           by_cases c43 : x6_3 < (l1_4.length : Int)
           ·rw [if_pos c43] at H
            have c43b0 : decide (x6_3 < (l1_4.length : Int)) = true := decide_eq_true c43
            clear c43
            by_cases c44 : ((rd_T70 l0_4 x6_3).f0).toList = ((rd_T70 l1_4 x6_3).f0).toList
            ·rw [if_pos c44] at H
             have c44b0 : (((rd_T70 l0_4 x6_3).f0).toList == ((rd_T70 l1_4 x6_3).f0).toList) = true := beq_iff_eq.mpr c44
             have c44b1 : (((rd_T70 l0_4 x6_3).f0).toList != ((rd_T70 l1_4 x6_3).f0).toList) = false := bne_eq_false_iff_eq.mpr c44
             clear c44
             replace H := Option.bind_eq_some_iff.mp H
             obtain ⟨t565, A450, H⟩ := H
             replace H : (if t565 = true then (orchestratorref21_SameValue.l1 k3 (wrap64 (x6_3 + 1)) a0_0 a0_1 a0_2 l0_3 l0_4 a1_0 a1_1 a1_2 l1_3 l1_4) else (some false)) = some r := H
             have A45 := s_a A450
             clear A450
             by_cases c46 : t565 = true
             ·subst c46
              (try rw [if_pos rfl] at H)
              have H' := s_a H
              clear H
              have hnb47 := NB556_557.out
              have hnc47 := NB557_556.out
              obtain ⟨hcz48_0, hcz48_1, hcz48_2, hcz48_3, hcz48_4⟩ := cells31 BK556.out
              try go_wp2
              replace BK556 := s_a (blk_drew BK556.out)
              replace BK557 := s_a (blk_drew BK557.out)
              replace HB := s_a (below_drew1 HB.out)
              have p561 : 0 ≤ (x6_3 : Int) := of_decide_eq_true (by first | (with_reducible assumption) | assumption)
              have q561 : x6_3 < (l0_4.length : Int) := of_decide_eq_true (by first | (with_reducible assumption) | assumption)
              obtain ⟨ad561, A561_4, c561_4, A561_5, c561_5, e561, hx561_0, hx561_1, hx561_2, hx561_3, hx561_4, hx561_5, hl561_4, hi561_4, hl561_5, hi561_5⟩ := at_T70 HR0_4.out x6_3 p561 q561
              have hw561_5 := hx561_5
              have hw561_4 := hx561_4
              have hw561_3 := hx561_3
              have hw561_2 := hx561_2
              have hw561_1 := hx561_1
              have hw561_0 := hx561_0
              cases e561
              replace hx561_0 := s_m HB.out hx561_0
              replace hx561_1 := s_m HB.out hx561_1
              replace hx561_2 := s_m HB.out hx561_2
              replace hx561_3 := s_m HB.out hx561_3
              replace hx561_4 := s_m HB.out hx561_4
              replace hx561_5 := s_m HB.out hx561_5
              have HR561_4 := s_a hi561_4
              have HC561_4 := s_a hl561_4
              clear hi561_4 hl561_4
              have HR561_5 := s_a hi561_5
              have HC561_5 := s_a hl561_5
              clear hi561_5 hl561_5
              replace p561 := eq_true p561
              replace q561 := eq_true q561
              have p562 : 0 ≤ (x6_3 : Int) := of_decide_eq_true (by first | (with_reducible assumption) | assumption)
              have q562 : x6_3 < (l1_4.length : Int) := of_decide_eq_true (by first | (with_reducible assumption) | assumption)
              obtain ⟨ad562, A562_4, c562_4, A562_5, c562_5, e562, hx562_0, hx562_1, hx562_2, hx562_3, hx562_4, hx562_5, hl562_4, hi562_4, hl562_5, hi562_5⟩ := at_T70 HR1_4.out x6_3 p562 q562
              have hw562_5 := hx562_5
              have hw562_4 := hx562_4
              have hw562_3 := hx562_3
              have hw562_2 := hx562_2
              have hw562_1 := hx562_1
              have hw562_0 := hx562_0
              cases e562
              replace hx562_0 := s_m HB.out hx562_0
              replace hx562_1 := s_m HB.out hx562_1
              replace hx562_2 := s_m HB.out hx562_2
              replace hx562_3 := s_m HB.out hx562_3
              replace hx562_4 := s_m HB.out hx562_4
              replace hx562_5 := s_m HB.out hx562_5
              have HR562_4 := s_a hi562_4
              have HC562_4 := s_a hl562_4
              clear hi562_4 hl562_4
              have HR562_5 := s_a hi562_5
              have HC562_5 := s_a hl562_5
              clear hi562_5 hl562_5
              replace p562 := eq_true p562
              replace q562 := eq_true q562
              have p563 : 0 ≤ (x6_3 : Int) := of_decide_eq_true (by first | (with_reducible assumption) | assumption)
              have q563 : x6_3 < (l0_4.length : Int) := of_decide_eq_true (by first | (with_reducible assumption) | assumption)
              obtain ⟨ad563, A563_4, c563_4, A563_5, c563_5, e563, hx563_0, hx563_1, hx563_2, hx563_3, hx563_4, hx563_5, hl563_4, hi563_4, hl563_5, hi563_5⟩ := at_T70 HR0_4.out x6_3 p563 q563
              have hw563_5 := hx563_5
              have hw563_4 := hx563_4
              have hw563_3 := hx563_3
              have hw563_2 := hx563_2
              have hw563_1 := hx563_1
              have hw563_0 := hx563_0
              obtain rfl : ad561 = ad563 := (by injection e563)
              replace hx563_0 := s_m HB.out hx563_0
              replace hx563_1 := s_m HB.out hx563_1
              replace hx563_2 := s_m HB.out hx563_2
              replace hx563_3 := s_m HB.out hx563_3
              replace hx563_4 := s_m HB.out hx563_4
              replace hx563_5 := s_m HB.out hx563_5
              have HR563_4 := s_a hi563_4
              have HC563_4 := s_a hl563_4
              clear hi563_4 hl563_4
              have HR563_5 := s_a hi563_5
              have HC563_5 := s_a hl563_5
              clear hi563_5 hl563_5
              replace p563 := eq_true p563
              replace q563 := eq_true q563
              have ea_ := Option.some.inj (hx561_4.symm.trans hx563_4)
              injection ea_ with ea_ en_ ec_
              subst ea_
              subst ec_
              clear en_
              have ea_ := Option.some.inj (hx561_5.symm.trans hx563_5)
              injection ea_ with ea_ en_ ec_
              subst ea_
              subst ec_
              clear en_
              have p564 : 0 ≤ (x6_3 : Int) := of_decide_eq_true (by first | (with_reducible assumption) | assumption)
              have q564 : x6_3 < (l1_4.length : Int) := of_decide_eq_true (by first | (with_reducible assumption) | assumption)
              obtain ⟨ad564, A564_4, c564_4, A564_5, c564_5, e564, hx564_0, hx564_1, hx564_2, hx564_3, hx564_4, hx564_5, hl564_4, hi564_4, hl564_5, hi564_5⟩ := at_T70 HR1_4.out x6_3 p564 q564
              have hw564_5 := hx564_5
              have hw564_4 := hx564_4
              have hw564_3 := hx564_3
              have hw564_2 := hx564_2
              have hw564_1 := hx564_1
              have hw564_0 := hx564_0
              obtain rfl : ad562 = ad564 := (by injection e564)
              replace hx564_0 := s_m HB.out hx564_0
              replace hx564_1 := s_m HB.out hx564_1
              replace hx564_2 := s_m HB.out hx564_2
              replace hx564_3 := s_m HB.out hx564_3
              replace hx564_4 := s_m HB.out hx564_4
              replace hx564_5 := s_m HB.out hx564_5
              have HR564_4 := s_a hi564_4
              have HC564_4 := s_a hl564_4
              clear hi564_4 hl564_4
              have HR564_5 := s_a hi564_5
              have HC564_5 := s_a hl564_5
              clear hi564_5 hl564_5
              replace p564 := eq_true p564
              replace q564 := eq_true q564
              have ea_ := Option.some.inj (hx562_4.symm.trans hx564_4)
              injection ea_ with ea_ en_ ec_
              subst ea_
              subst ec_
              clear en_
              have ea_ := Option.some.inj (hx562_5.symm.trans hx564_5)
              injection ea_ with ea_ en_ ec_
              subst ea_
              subst ec_
              clear en_
              refine start_ (n := 29) (S := fun w' => w'.cell? ⟨gb556, 4, none⟩ = some (.slice (some ad561) l0_4.length c0_4) ∧ w'.cell? ⟨gb557, 4, none⟩ = some (.slice (some ad562) l1_4.length c1_4) ∧ w'.cell? (ad561.add ((x6_3).toNat * 6)) = some (.string ((rd_T70 l0_4 x6_3).f0)) ∧ w'.cell? ⟨(ad561.add ((x6_3).toNat * 6)).block, (ad561.add ((x6_3).toNat * 6)).off + 1, none⟩ = some (.int .i64 ((rd_T70 l0_4 x6_3).f1.f0)) ∧ w'.cell? ⟨(ad561.add ((x6_3).toNat * 6)).block, (ad561.add ((x6_3).toNat * 6)).off + 2, none⟩ = some (.int .i64 ((rd_T70 l0_4 x6_3).f1.f1)) ∧ w'.cell? ⟨(ad561.add ((x6_3).toNat * 6)).block, (ad561.add ((x6_3).toNat * 6)).off + 3, none⟩ = some (.string ((rd_T70 l0_4 x6_3).f1.f2)) ∧ w'.cell? ⟨(ad561.add ((x6_3).toNat * 6)).block, (ad561.add ((x6_3).toNat * 6)).off + 4, none⟩ = some (.slice A561_4 ((rd_T70 l0_4 x6_3).f1.f3).length c561_4) ∧ w'.cell? ⟨(ad561.add ((x6_3).toNat * 6)).block, (ad561.add ((x6_3).toNat * 6)).off + 5, none⟩ = some (.slice A561_5 ((rd_T70 l0_4 x6_3).f1.f4).length c561_5) ∧ w'.cell? (ad562.add ((x6_3).toNat * 6)) = some (.string ((rd_T70 l1_4 x6_3).f0)) ∧ w'.cell? ⟨(ad562.add ((x6_3).toNat * 6)).block, (ad562.add ((x6_3).toNat * 6)).off + 1, none⟩ = some (.int .i64 ((rd_T70 l1_4 x6_3).f1.f0)) ∧ w'.cell? ⟨(ad562.add ((x6_3).toNat * 6)).block, (ad562.add ((x6_3).toNat * 6)).off + 2, none⟩ = some (.int .i64 ((rd_T70 l1_4 x6_3).f1.f1)) ∧ w'.cell? ⟨(ad562.add ((x6_3).toNat * 6)).block, (ad562.add ((x6_3).toNat * 6)).off + 3, none⟩ = some (.string ((rd_T70 l1_4 x6_3).f1.f2)) ∧ w'.cell? ⟨(ad562.add ((x6_3).toNat * 6)).block, (ad562.add ((x6_3).toNat * 6)).off + 4, none⟩ = some (.slice A562_4 ((rd_T70 l1_4 x6_3).f1.f3).length c562_4) ∧ w'.cell? ⟨(ad562.add ((x6_3).toNat * 6)).block, (ad562.add ((x6_3).toNat * 6)).off + 5, none⟩ = some (.slice A562_5 ((rd_T70 l1_4 x6_3).f1.f4).length c562_5) ∧ w'.cell? (ad561.add ((x6_3).toNat * 6)) = some (.string ((rd_T70 l0_4 x6_3).f0)) ∧ w'.cell? ⟨(ad561.add ((x6_3).toNat * 6)).block, (ad561.add ((x6_3).toNat * 6)).off + 1, none⟩ = some (.int .i64 ((rd_T70 l0_4 x6_3).f1.f0)) ∧ w'.cell? ⟨(ad561.add ((x6_3).toNat * 6)).block, (ad561.add ((x6_3).toNat * 6)).off + 2, none⟩ = some (.int .i64 ((rd_T70 l0_4 x6_3).f1.f1)) ∧ w'.cell? ⟨(ad561.add ((x6_3).toNat * 6)).block, (ad561.add ((x6_3).toNat * 6)).off + 3, none⟩ = some (.string ((rd_T70 l0_4 x6_3).f1.f2)) ∧ w'.cell? ⟨(ad561.add ((x6_3).toNat * 6)).block, (ad561.add ((x6_3).toNat * 6)).off + 4, none⟩ = some (.slice A561_4 ((rd_T70 l0_4 x6_3).f1.f3).length c561_4) ∧ w'.cell? ⟨(ad561.add ((x6_3).toNat * 6)).block, (ad561.add ((x6_3).toNat * 6)).off + 5, none⟩ = some (.slice A561_5 ((rd_T70 l0_4 x6_3).f1.f4).length c561_5) ∧ w'.cell? (ad562.add ((x6_3).toNat * 6)) = some (.string ((rd_T70 l1_4 x6_3).f0)) ∧ w'.cell? ⟨(ad562.add ((x6_3).toNat * 6)).block, (ad562.add ((x6_3).toNat * 6)).off + 1, none⟩ = some (.int .i64 ((rd_T70 l1_4 x6_3).f1.f0)) ∧ w'.cell? ⟨(ad562.add ((x6_3).toNat * 6)).block, (ad562.add ((x6_3).toNat * 6)).off + 2, none⟩ = some (.int .i64 ((rd_T70 l1_4 x6_3).f1.f1)) ∧ w'.cell? ⟨(ad562.add ((x6_3).toNat * 6)).block, (ad562.add ((x6_3).toNat * 6)).off + 3, none⟩ = some (.string ((rd_T70 l1_4 x6_3).f1.f2)) ∧ w'.cell? ⟨(ad562.add ((x6_3).toNat * 6)).block, (ad562.add ((x6_3).toNat * 6)).off + 4, none⟩ = some (.slice A562_4 ((rd_T70 l1_4 x6_3).f1.f3).length c562_4) ∧ w'.cell? ⟨(ad562.add ((x6_3).toNat * 6)).block, (ad562.add ((x6_3).toNat * 6)).off + 5, none⟩ = some (.slice A562_5 ((rd_T70 l1_4 x6_3).f1.f4).length c562_5)) (ds := []) (bz 29 0) (by kernel_rfl) rfl rfl ⟨s_x BK556.out 4, s_x BK557.out 4, (s_m HB.out hw561_0), (s_m HB.out hw561_1), (s_m HB.out hw561_2), (s_m HB.out hw561_3), (s_m HB.out hw561_4), (s_m HB.out hw561_5), (s_m HB.out hw562_0), (s_m HB.out hw562_1), (s_m HB.out hw562_2), (s_m HB.out hw562_3), (s_m HB.out hw562_4), (s_m HB.out hw562_5), (s_m HB.out hw563_0), (s_m HB.out hw563_1), (s_m HB.out hw563_2), (s_m HB.out hw563_3), (s_m HB.out hw563_4), (s_m HB.out hw563_5), (s_m HB.out hw564_0), (s_m HB.out hw564_1), (s_m HB.out hw564_2), (s_m HB.out hw564_3), (s_m HB.out hw564_4), (s_m HB.out hw564_5)⟩ (fun hHeld => ?_); refine with_tabW orchestratorref21_SameValue.tab11 orchestratorref21_SameValue.bits11 (fun HT_ HW_ => ?_)
              generalize wr.drew = w49 at BK556 BK557 HB HR561_4 HR561_5 HR562_4 HR562_5 HR563_4 HR563_5 HR564_4 HR564_5 hx561_0 hx561_1 hx561_2 hx561_3 hx561_4 hx561_5 hx562_0 hx562_1 hx562_2 hx562_3 hx562_4 hx562_5 hx563_0 hx563_1 hx563_2 hx563_3 hx563_4 hx563_5 hx564_0 hx564_1 hx564_2 hx564_3 hx564_4 hx564_5 hHeld ⊢
              refine q_p 0 (some 70) (bz 29 1) (any_of HT_.out (by kernel_rfl)) (v := ?_) ?_ (a' := ?_) ?_ ?_; rotate_left 2
              ·intro w'; go_simp; with_reducible rfl
              ·simp only [Act.put, List.setIfInBounds_toArray, List.set_cons_zero, List.set_cons_succ, i64_w, i32_w]; rfl
              refine q_p 2 (some 72) (bz 29 5) (any_of HT_.out (by kernel_rfl)) (v := ?_) ?_ (a' := ?_) ?_ ?_; rotate_left 2
              ·intro w'; go_simp; with_reducible rfl
              ·simp only [Act.put, List.setIfInBounds_toArray, List.set_cons_zero, List.set_cons_succ, i64_w, i32_w]; rfl
              refine q_p 6 (some 76) (bz 29 69) (any_of HT_.out (by kernel_rfl)) (v := ?_) ?_ (a' := ?_) ?_ ?_; rotate_left 2
              ·intro w'; go_simp; with_reducible rfl
              ·simp only [Act.put, List.setIfInBounds_toArray, List.set_cons_zero, List.set_cons_succ, i64_w, i32_w]; rfl
              refine q_p 8 (some 78) (bz 29 325) (any_of HT_.out (by kernel_rfl)) (v := ?_) ?_ (a' := ?_) ?_ ?_; rotate_left 2
              ·intro w'; go_simp; with_reducible rfl
              ·simp only [Act.put, List.setIfInBounds_toArray, List.set_cons_zero, List.set_cons_succ, i64_w, i32_w]; rfl
              refine q_t 1 (some 71) (bz 29 327) (take_ofW HT_.out HW_.out (by kernel_rfl)) hHeld (v := ?_) ?_ (a' := ?_) ?_ ?_; rotate_left 2
              ·rintro w' ⟨s0, s1, s2, s3, s4, s5, s6, s7, s8, s9, s10, s11, s12, s13, s14, s15, s16, s17, s18, s19, s20, s21, s22, s23, s24, s25⟩; go_simp; with_reducible rfl
              ·simp only [Act.put, List.setIfInBounds_toArray, List.set_cons_zero, List.set_cons_succ, i64_w, i32_w]; rfl
              refine q_p 3 (some 73) (bz 29 335) (any_of HT_.out (by kernel_rfl)) (v := ?_) ?_ (a' := ?_) ?_ ?_; rotate_left 2
              ·intro w'; go_simp; with_reducible rfl
              ·simp only [Act.put, List.setIfInBounds_toArray, List.set_cons_zero, List.set_cons_succ, i64_w, i32_w]; rfl
              refine q_p 4 (some 74) (bz 29 351) (any_of HT_.out (by kernel_rfl)) (v := ?_) ?_ (a' := ?_) ?_ ?_; rotate_left 2
              ·intro w'; go_simp; with_reducible rfl
              ·simp only [Act.put, List.setIfInBounds_toArray, List.set_cons_zero, List.set_cons_succ, i64_w, i32_w]; rfl
              refine q_t 5 (some 75) (bz 29 383) (take_ofW HT_.out HW_.out (by kernel_rfl)) hHeld (v := ?_) ?_ (a' := ?_) ?_ ?_; rotate_left 2
              ·rintro w' ⟨s0, s1, s2, s3, s4, s5, s6, s7, s8, s9, s10, s11, s12, s13, s14, s15, s16, s17, s18, s19, s20, s21, s22, s23, s24, s25⟩; go_simp; with_reducible rfl
              ·simp only [Act.put, List.setIfInBounds_toArray, List.set_cons_zero, List.set_cons_succ, i64_w, i32_w]; rfl
              refine q_t 7 (some 77) (bz 29 511) (take_ofW HT_.out HW_.out (by kernel_rfl)) hHeld (v := ?_) ?_ (a' := ?_) ?_ ?_; rotate_left 2
              ·rintro w' ⟨s0, s1, s2, s3, s4, s5, s6, s7, s8, s9, s10, s11, s12, s13, s14, s15, s16, s17, s18, s19, s20, s21, s22, s23, s24, s25⟩; go_simp; with_reducible rfl
              ·simp only [Act.put, List.setIfInBounds_toArray, List.set_cons_zero, List.set_cons_succ, i64_w, i32_w]; rfl
              refine q_p 9 (some 79) (bz 29 1023) (any_of HT_.out (by kernel_rfl)) (v := ?_) ?_ (a' := ?_) ?_ ?_; rotate_left 2
              ·intro w'; go_simp; with_reducible rfl
              ·simp only [Act.put, List.setIfInBounds_toArray, List.set_cons_zero, List.set_cons_succ, i64_w, i32_w]; rfl
              refine q_p 10 (some 80) (bz 29 2047) (any_of HT_.out (by kernel_rfl)) (v := ?_) ?_ (a' := ?_) ?_ ?_; rotate_left 2
              ·intro w'; go_simp; with_reducible rfl
              ·simp only [Act.put, List.setIfInBounds_toArray, List.set_cons_zero, List.set_cons_succ, i64_w, i32_w]; rfl
              refine q_t 11 (some 81) (bz 29 4095) (take_ofW HT_.out HW_.out (by kernel_rfl)) hHeld (v := ?_) ?_ (a' := ?_) ?_ ?_; rotate_left 2
              ·rintro w' ⟨s0, s1, s2, s3, s4, s5, s6, s7, s8, s9, s10, s11, s12, s13, s14, s15, s16, s17, s18, s19, s20, s21, s22, s23, s24, s25⟩; go_simp; with_reducible rfl
              ·simp only [Act.put, List.setIfInBounds_toArray, List.set_cons_zero, List.set_cons_succ, i64_w, i32_w]; rfl
              refine q_p 12 (some 82) (bz 29 8191) (any_of HT_.out (by kernel_rfl)) (v := ?_) ?_ (a' := ?_) ?_ ?_; rotate_left 2
              ·intro w'; go_simp; with_reducible rfl
              ·simp only [Act.put, List.setIfInBounds_toArray, List.set_cons_zero, List.set_cons_succ, i64_w, i32_w]; rfl
              refine q_p 13 (some 83) (bz 29 16383) (any_of HT_.out (by kernel_rfl)) (v := ?_) ?_ (a' := ?_) ?_ ?_; rotate_left 2
              ·intro w'; go_simp; with_reducible rfl
              ·simp only [Act.put, List.setIfInBounds_toArray, List.set_cons_zero, List.set_cons_succ, i64_w, i32_w]; rfl
              refine q_p 14 (some 84) (bz 29 32767) (any_of HT_.out (by kernel_rfl)) (v := ?_) ?_ (a' := ?_) ?_ ?_; rotate_left 2
              ·intro w'; go_simp; with_reducible rfl
              ·simp only [Act.put, List.setIfInBounds_toArray, List.set_cons_zero, List.set_cons_succ, i64_w, i32_w]; rfl
              refine q_p 16 (some 86) (bz 29 98303) (any_of HT_.out (by kernel_rfl)) (v := ?_) ?_ (a' := ?_) ?_ ?_; rotate_left 2
              ·intro w'; go_simp; with_reducible rfl
              ·simp only [Act.put, List.setIfInBounds_toArray, List.set_cons_zero, List.set_cons_succ, i64_w, i32_w]; rfl
              refine q_p 20 (some 90) (bz 29 1146879) (any_of HT_.out (by kernel_rfl)) (v := ?_) ?_ (a' := ?_) ?_ ?_; rotate_left 2
              ·intro w'; go_simp; with_reducible rfl
              ·simp only [Act.put, List.setIfInBounds_toArray, List.set_cons_zero, List.set_cons_succ, i64_w, i32_w]; rfl
              refine q_p 22 (some 92) (bz 29 5341183) (any_of HT_.out (by kernel_rfl)) (v := ?_) ?_ (a' := ?_) ?_ ?_; rotate_left 2
              ·intro w'; go_simp; with_reducible rfl
              ·simp only [Act.put, List.setIfInBounds_toArray, List.set_cons_zero, List.set_cons_succ, i64_w, i32_w]; rfl
              refine q_t 15 (some 85) (bz 29 5373951) (take_ofW HT_.out HW_.out (by kernel_rfl)) hHeld (v := ?_) ?_ (a' := ?_) ?_ ?_; rotate_left 2
              ·rintro w' ⟨s0, s1, s2, s3, s4, s5, s6, s7, s8, s9, s10, s11, s12, s13, s14, s15, s16, s17, s18, s19, s20, s21, s22, s23, s24, s25⟩; go_simp; with_reducible rfl
              ·simp only [Act.put, List.setIfInBounds_toArray, List.set_cons_zero, List.set_cons_succ, i64_w, i32_w]; rfl
              refine q_p 17 (some 87) (bz 29 5505023) (any_of HT_.out (by kernel_rfl)) (v := ?_) ?_ (a' := ?_) ?_ ?_; rotate_left 2
              ·intro w'; go_simp; with_reducible rfl
              ·simp only [Act.put, List.setIfInBounds_toArray, List.set_cons_zero, List.set_cons_succ, i64_w, i32_w]; rfl
              refine q_p 18 (some 88) (bz 29 5767167) (any_of HT_.out (by kernel_rfl)) (v := ?_) ?_ (a' := ?_) ?_ ?_; rotate_left 2
              ·intro w'; go_simp; with_reducible rfl
              ·simp only [Act.put, List.setIfInBounds_toArray, List.set_cons_zero, List.set_cons_succ, i64_w, i32_w]; rfl
              refine q_t 19 (some 89) (bz 29 6291455) (take_ofW HT_.out HW_.out (by kernel_rfl)) hHeld (v := ?_) ?_ (a' := ?_) ?_ ?_; rotate_left 2
              ·rintro w' ⟨s0, s1, s2, s3, s4, s5, s6, s7, s8, s9, s10, s11, s12, s13, s14, s15, s16, s17, s18, s19, s20, s21, s22, s23, s24, s25⟩; (refine (s_ld rfl 31 (.tmp 88) ?_ _ ?_ _ _ (cells_at s15 (s_cc s16 (s_cc s17 (s_cc s18 (s_cc s19 s_cn))))) Try.underlying31 (by rfl) sz31).trans ?_ <;> first | (with_reducible rfl) | rfl)
              ·simp only [Act.put, List.setIfInBounds_toArray, List.set_cons_zero, List.set_cons_succ, i64_w, i32_w]; rfl
              refine q_t 21 (some 91) (bz 29 8388607) (take_ofW HT_.out HW_.out (by kernel_rfl)) hHeld (v := ?_) ?_ (a' := ?_) ?_ ?_; rotate_left 2
              ·rintro w' ⟨s0, s1, s2, s3, s4, s5, s6, s7, s8, s9, s10, s11, s12, s13, s14, s15, s16, s17, s18, s19, s20, s21, s22, s23, s24, s25⟩; go_simp; with_reducible rfl
              ·simp only [Act.put, List.setIfInBounds_toArray, List.set_cons_zero, List.set_cons_succ, i64_w, i32_w]; rfl
              refine q_p 23 (some 93) (bz 29 16777215) (any_of HT_.out (by kernel_rfl)) (v := ?_) ?_ (a' := ?_) ?_ ?_; rotate_left 2
              ·intro w'; go_simp; with_reducible rfl
              ·simp only [Act.put, List.setIfInBounds_toArray, List.set_cons_zero, List.set_cons_succ, i64_w, i32_w]; rfl
              refine q_p 24 (some 94) (bz 29 33554431) (any_of HT_.out (by kernel_rfl)) (v := ?_) ?_ (a' := ?_) ?_ ?_; rotate_left 2
              ·intro w'; go_simp; with_reducible rfl
              ·simp only [Act.put, List.setIfInBounds_toArray, List.set_cons_zero, List.set_cons_succ, i64_w, i32_w]; rfl
              refine q_t 25 (some 95) (bz 29 67108863) (take_ofW HT_.out HW_.out (by kernel_rfl)) hHeld (v := ?_) ?_ (a' := ?_) ?_ ?_; rotate_left 2
              ·rintro w' ⟨s0, s1, s2, s3, s4, s5, s6, s7, s8, s9, s10, s11, s12, s13, s14, s15, s16, s17, s18, s19, s20, s21, s22, s23, s24, s25⟩; (refine (s_ld rfl 31 (.tmp 94) ?_ _ ?_ _ _ (cells_at s21 (s_cc s22 (s_cc s23 (s_cc s24 (s_cc s25 s_cn))))) Try.underlying31 (by rfl) sz31).trans ?_ <;> first | (with_reducible rfl) | rfl)
              ·simp only [Act.put, List.setIfInBounds_toArray, List.set_cons_zero, List.set_cons_succ, i64_w, i32_w]; rfl
              refine one_ (i := 26) (N := some 96) (bz 29 134217727) rfl rfl (one_of HT_.out (by kernel_rfl)) (by decide) (fun K hK => ?_)
              refine goes_ Try.func22 (by kernel_rfl) rfl #[.agg #[.int .i64 ((rd_T70 l0_4 x6_3).f1.f0), .int .i64 ((rd_T70 l0_4 x6_3).f1.f1), .string ((rd_T70 l0_4 x6_3).f1.f2), .slice A561_4 ((rd_T70 l0_4 x6_3).f1.f3).length c561_4, .slice A561_5 ((rd_T70 l0_4 x6_3).f1.f4).length c561_5], .agg #[.int .i64 ((rd_T70 l1_4 x6_3).f1.f0), .int .i64 ((rd_T70 l1_4 x6_3).f1.f1), .string ((rd_T70 l1_4 x6_3).f1.f2), .slice A562_4 ((rd_T70 l1_4 x6_3).f1.f3).length c562_4, .slice A562_5 ((rd_T70 l1_4 x6_3).f1.f4).length c562_5]] (by rfl) rfl rfl (by (try simp only [List.map_toArray, List.map_cons, List.map_nil]); first | done | rfl | (simp only [List.length_drop, List.length_take]; rfl)) ?_
              with_reducible refine (ih k3 (by have := HJ2.out; have := HK2.out; have := HK3.out; omega) _ _ _ _ _ _ _ _ _ _ _ _ _ _ _ _ _ _ _ _ ?side1 ?side2 ?side3 ?side4 ?side5 ?side6 ?side7 ?side8 A45.out).mono ?_
              (case side1 => exact s_D HR563_4.out HB.out)
              (case side2 => exact HC563_4.out)
              (case side3 => exact s_D HR563_5.out HB.out)
              (case side4 => exact HC563_5.out)
              (case side5 => exact s_D HR564_4.out HB.out)
              (case side6 => exact HC564_4.out)
              (case side7 => exact s_D HR564_5.out HB.out)
              (case side8 => exact HC564_5.out)
              rintro e w50 ⟨rfl, hb⟩
              refine ⟨_, rfl, ?_⟩
              replace BK556 := s_a (blk_below (s_k BK556.out) hb)
              replace BK557 := s_a (blk_below (s_k BK557.out) hb)
              replace HB := s_a (below_step (by exact s_b HB.out) hb)
              (try clear hb)
              refine hK.out _ _ ⟨s_x BK556.out 4, s_x BK557.out 4, (s_m HB.out hw561_0), (s_m HB.out hw561_1), (s_m HB.out hw561_2), (s_m HB.out hw561_3), (s_m HB.out hw561_4), (s_m HB.out hw561_5), (s_m HB.out hw562_0), (s_m HB.out hw562_1), (s_m HB.out hw562_2), (s_m HB.out hw562_3), (s_m HB.out hw562_4), (s_m HB.out hw562_5), (s_m HB.out hw563_0), (s_m HB.out hw563_1), (s_m HB.out hw563_2), (s_m HB.out hw563_3), (s_m HB.out hw563_4), (s_m HB.out hw563_5), (s_m HB.out hw564_0), (s_m HB.out hw564_1), (s_m HB.out hw564_2), (s_m HB.out hw564_3), (s_m HB.out hw564_4), (s_m HB.out hw564_5)⟩ (fun hHeld => ?_)
              clear hK K
              refine norm_ (a' := ?_) ?_ ?_
              rotate_left
              ·show Act.put _ (some 96) _ = _
               simp only [Act.put, List.setIfInBounds_toArray, List.set_cons_zero, List.set_cons_succ, i64_w, i32_w]
               rfl
              refine q_p 27 (some 97) (bz 29 268435455) (any_of HT_.out (by kernel_rfl)) (v := ?_) ?_ (a' := ?_) ?_ ?_; rotate_left 2
              ·intro w'; go_simp; with_reducible rfl
              ·simp only [Act.put, List.setIfInBounds_toArray, List.set_cons_zero, List.set_cons_succ, i64_w, i32_w]; rfl
              refine q_p 28 (some 98) (bz 29 536870911) (any_of HT_.out (by kernel_rfl)) (v := ?_) ?_ (a' := ?_) ?_ ?_; rotate_left 2
              ·intro w'; go_simp; with_reducible rfl
              ·simp only [Act.put, List.setIfInBounds_toArray, List.set_cons_zero, List.set_cons_succ, i64_w, i32_w]; rfl
              refine done_ (done_of HT_.out (by kernel_rfl)) ?_
              try go_wp2
              go_roundg k3
              case measure => have := HJ2.out; have := HK2.out; have := HK3.out; omega
              case rel => exact ⟨(wrap64 (x6_3 + 1)), (by first | rfl | (simp; done) | (simp [*]; done)), H', ⟨by have := HJ2.out; have := HK2.out; have := HK3.out; omega⟩, ⟨by exact s_k BK556.out⟩, ⟨by exact s_k BK557.out⟩, ⟨by exact s_b HB.out⟩⟩
             ·replace c46 := Bool.eq_false_iff.mpr c46
              subst c46
              (try rw [if_neg (show ¬ (false = true) by decide)] at H)
              obtain rfl := Option.some.inj H
              have hnb51 := NB556_557.out
              have hnc51 := NB557_556.out
              obtain ⟨hcz52_0, hcz52_1, hcz52_2, hcz52_3, hcz52_4⟩ := cells31 BK556.out
              try go_wp2
              replace BK556 := s_a (blk_drew BK556.out)
              replace BK557 := s_a (blk_drew BK557.out)
              replace HB := s_a (below_drew1 HB.out)
              have p561 : 0 ≤ (x6_3 : Int) := of_decide_eq_true (by first | (with_reducible assumption) | assumption)
              have q561 : x6_3 < (l0_4.length : Int) := of_decide_eq_true (by first | (with_reducible assumption) | assumption)
              obtain ⟨ad561, A561_4, c561_4, A561_5, c561_5, e561, hx561_0, hx561_1, hx561_2, hx561_3, hx561_4, hx561_5, hl561_4, hi561_4, hl561_5, hi561_5⟩ := at_T70 HR0_4.out x6_3 p561 q561
              have hw561_5 := hx561_5
              have hw561_4 := hx561_4
              have hw561_3 := hx561_3
              have hw561_2 := hx561_2
              have hw561_1 := hx561_1
              have hw561_0 := hx561_0
              cases e561
              replace hx561_0 := s_m HB.out hx561_0
              replace hx561_1 := s_m HB.out hx561_1
              replace hx561_2 := s_m HB.out hx561_2
              replace hx561_3 := s_m HB.out hx561_3
              replace hx561_4 := s_m HB.out hx561_4
              replace hx561_5 := s_m HB.out hx561_5
              have HR561_4 := s_a hi561_4
              have HC561_4 := s_a hl561_4
              clear hi561_4 hl561_4
              have HR561_5 := s_a hi561_5
              have HC561_5 := s_a hl561_5
              clear hi561_5 hl561_5
              replace p561 := eq_true p561
              replace q561 := eq_true q561
              have p562 : 0 ≤ (x6_3 : Int) := of_decide_eq_true (by first | (with_reducible assumption) | assumption)
              have q562 : x6_3 < (l1_4.length : Int) := of_decide_eq_true (by first | (with_reducible assumption) | assumption)
              obtain ⟨ad562, A562_4, c562_4, A562_5, c562_5, e562, hx562_0, hx562_1, hx562_2, hx562_3, hx562_4, hx562_5, hl562_4, hi562_4, hl562_5, hi562_5⟩ := at_T70 HR1_4.out x6_3 p562 q562
              have hw562_5 := hx562_5
              have hw562_4 := hx562_4
              have hw562_3 := hx562_3
              have hw562_2 := hx562_2
              have hw562_1 := hx562_1
              have hw562_0 := hx562_0
              cases e562
              replace hx562_0 := s_m HB.out hx562_0
              replace hx562_1 := s_m HB.out hx562_1
              replace hx562_2 := s_m HB.out hx562_2
              replace hx562_3 := s_m HB.out hx562_3
              replace hx562_4 := s_m HB.out hx562_4
              replace hx562_5 := s_m HB.out hx562_5
              have HR562_4 := s_a hi562_4
              have HC562_4 := s_a hl562_4
              clear hi562_4 hl562_4
              have HR562_5 := s_a hi562_5
              have HC562_5 := s_a hl562_5
              clear hi562_5 hl562_5
              replace p562 := eq_true p562
              replace q562 := eq_true q562
              have p563 : 0 ≤ (x6_3 : Int) := of_decide_eq_true (by first | (with_reducible assumption) | assumption)
              have q563 : x6_3 < (l0_4.length : Int) := of_decide_eq_true (by first | (with_reducible assumption) | assumption)
              obtain ⟨ad563, A563_4, c563_4, A563_5, c563_5, e563, hx563_0, hx563_1, hx563_2, hx563_3, hx563_4, hx563_5, hl563_4, hi563_4, hl563_5, hi563_5⟩ := at_T70 HR0_4.out x6_3 p563 q563
              have hw563_5 := hx563_5
              have hw563_4 := hx563_4
              have hw563_3 := hx563_3
              have hw563_2 := hx563_2
              have hw563_1 := hx563_1
              have hw563_0 := hx563_0
              obtain rfl : ad561 = ad563 := (by injection e563)
              replace hx563_0 := s_m HB.out hx563_0
              replace hx563_1 := s_m HB.out hx563_1
              replace hx563_2 := s_m HB.out hx563_2
              replace hx563_3 := s_m HB.out hx563_3
              replace hx563_4 := s_m HB.out hx563_4
              replace hx563_5 := s_m HB.out hx563_5
              have HR563_4 := s_a hi563_4
              have HC563_4 := s_a hl563_4
              clear hi563_4 hl563_4
              have HR563_5 := s_a hi563_5
              have HC563_5 := s_a hl563_5
              clear hi563_5 hl563_5
              replace p563 := eq_true p563
              replace q563 := eq_true q563
              have ea_ := Option.some.inj (hx561_4.symm.trans hx563_4)
              injection ea_ with ea_ en_ ec_
              subst ea_
              subst ec_
              clear en_
              have ea_ := Option.some.inj (hx561_5.symm.trans hx563_5)
              injection ea_ with ea_ en_ ec_
              subst ea_
              subst ec_
              clear en_
              have p564 : 0 ≤ (x6_3 : Int) := of_decide_eq_true (by first | (with_reducible assumption) | assumption)
              have q564 : x6_3 < (l1_4.length : Int) := of_decide_eq_true (by first | (with_reducible assumption) | assumption)
              obtain ⟨ad564, A564_4, c564_4, A564_5, c564_5, e564, hx564_0, hx564_1, hx564_2, hx564_3, hx564_4, hx564_5, hl564_4, hi564_4, hl564_5, hi564_5⟩ := at_T70 HR1_4.out x6_3 p564 q564
              have hw564_5 := hx564_5
              have hw564_4 := hx564_4
              have hw564_3 := hx564_3
              have hw564_2 := hx564_2
              have hw564_1 := hx564_1
              have hw564_0 := hx564_0
              obtain rfl : ad562 = ad564 := (by injection e564)
              replace hx564_0 := s_m HB.out hx564_0
              replace hx564_1 := s_m HB.out hx564_1
              replace hx564_2 := s_m HB.out hx564_2
              replace hx564_3 := s_m HB.out hx564_3
              replace hx564_4 := s_m HB.out hx564_4
              replace hx564_5 := s_m HB.out hx564_5
              have HR564_4 := s_a hi564_4
              have HC564_4 := s_a hl564_4
              clear hi564_4 hl564_4
              have HR564_5 := s_a hi564_5
              have HC564_5 := s_a hl564_5
              clear hi564_5 hl564_5
              replace p564 := eq_true p564
              replace q564 := eq_true q564
              have ea_ := Option.some.inj (hx562_4.symm.trans hx564_4)
              injection ea_ with ea_ en_ ec_
              subst ea_
              subst ec_
              clear en_
              have ea_ := Option.some.inj (hx562_5.symm.trans hx564_5)
              injection ea_ with ea_ en_ ec_
              subst ea_
              subst ec_
              clear en_
              refine start_ (n := 29) (S := fun w' => w'.cell? ⟨gb556, 4, none⟩ = some (.slice (some ad561) l0_4.length c0_4) ∧ w'.cell? ⟨gb557, 4, none⟩ = some (.slice (some ad562) l1_4.length c1_4) ∧ w'.cell? (ad561.add ((x6_3).toNat * 6)) = some (.string ((rd_T70 l0_4 x6_3).f0)) ∧ w'.cell? ⟨(ad561.add ((x6_3).toNat * 6)).block, (ad561.add ((x6_3).toNat * 6)).off + 1, none⟩ = some (.int .i64 ((rd_T70 l0_4 x6_3).f1.f0)) ∧ w'.cell? ⟨(ad561.add ((x6_3).toNat * 6)).block, (ad561.add ((x6_3).toNat * 6)).off + 2, none⟩ = some (.int .i64 ((rd_T70 l0_4 x6_3).f1.f1)) ∧ w'.cell? ⟨(ad561.add ((x6_3).toNat * 6)).block, (ad561.add ((x6_3).toNat * 6)).off + 3, none⟩ = some (.string ((rd_T70 l0_4 x6_3).f1.f2)) ∧ w'.cell? ⟨(ad561.add ((x6_3).toNat * 6)).block, (ad561.add ((x6_3).toNat * 6)).off + 4, none⟩ = some (.slice A561_4 ((rd_T70 l0_4 x6_3).f1.f3).length c561_4) ∧ w'.cell? ⟨(ad561.add ((x6_3).toNat * 6)).block, (ad561.add ((x6_3).toNat * 6)).off + 5, none⟩ = some (.slice A561_5 ((rd_T70 l0_4 x6_3).f1.f4).length c561_5) ∧ w'.cell? (ad562.add ((x6_3).toNat * 6)) = some (.string ((rd_T70 l1_4 x6_3).f0)) ∧ w'.cell? ⟨(ad562.add ((x6_3).toNat * 6)).block, (ad562.add ((x6_3).toNat * 6)).off + 1, none⟩ = some (.int .i64 ((rd_T70 l1_4 x6_3).f1.f0)) ∧ w'.cell? ⟨(ad562.add ((x6_3).toNat * 6)).block, (ad562.add ((x6_3).toNat * 6)).off + 2, none⟩ = some (.int .i64 ((rd_T70 l1_4 x6_3).f1.f1)) ∧ w'.cell? ⟨(ad562.add ((x6_3).toNat * 6)).block, (ad562.add ((x6_3).toNat * 6)).off + 3, none⟩ = some (.string ((rd_T70 l1_4 x6_3).f1.f2)) ∧ w'.cell? ⟨(ad562.add ((x6_3).toNat * 6)).block, (ad562.add ((x6_3).toNat * 6)).off + 4, none⟩ = some (.slice A562_4 ((rd_T70 l1_4 x6_3).f1.f3).length c562_4) ∧ w'.cell? ⟨(ad562.add ((x6_3).toNat * 6)).block, (ad562.add ((x6_3).toNat * 6)).off + 5, none⟩ = some (.slice A562_5 ((rd_T70 l1_4 x6_3).f1.f4).length c562_5) ∧ w'.cell? (ad561.add ((x6_3).toNat * 6)) = some (.string ((rd_T70 l0_4 x6_3).f0)) ∧ w'.cell? ⟨(ad561.add ((x6_3).toNat * 6)).block, (ad561.add ((x6_3).toNat * 6)).off + 1, none⟩ = some (.int .i64 ((rd_T70 l0_4 x6_3).f1.f0)) ∧ w'.cell? ⟨(ad561.add ((x6_3).toNat * 6)).block, (ad561.add ((x6_3).toNat * 6)).off + 2, none⟩ = some (.int .i64 ((rd_T70 l0_4 x6_3).f1.f1)) ∧ w'.cell? ⟨(ad561.add ((x6_3).toNat * 6)).block, (ad561.add ((x6_3).toNat * 6)).off + 3, none⟩ = some (.string ((rd_T70 l0_4 x6_3).f1.f2)) ∧ w'.cell? ⟨(ad561.add ((x6_3).toNat * 6)).block, (ad561.add ((x6_3).toNat * 6)).off + 4, none⟩ = some (.slice A561_4 ((rd_T70 l0_4 x6_3).f1.f3).length c561_4) ∧ w'.cell? ⟨(ad561.add ((x6_3).toNat * 6)).block, (ad561.add ((x6_3).toNat * 6)).off + 5, none⟩ = some (.slice A561_5 ((rd_T70 l0_4 x6_3).f1.f4).length c561_5) ∧ w'.cell? (ad562.add ((x6_3).toNat * 6)) = some (.string ((rd_T70 l1_4 x6_3).f0)) ∧ w'.cell? ⟨(ad562.add ((x6_3).toNat * 6)).block, (ad562.add ((x6_3).toNat * 6)).off + 1, none⟩ = some (.int .i64 ((rd_T70 l1_4 x6_3).f1.f0)) ∧ w'.cell? ⟨(ad562.add ((x6_3).toNat * 6)).block, (ad562.add ((x6_3).toNat * 6)).off + 2, none⟩ = some (.int .i64 ((rd_T70 l1_4 x6_3).f1.f1)) ∧ w'.cell? ⟨(ad562.add ((x6_3).toNat * 6)).block, (ad562.add ((x6_3).toNat * 6)).off + 3, none⟩ = some (.string ((rd_T70 l1_4 x6_3).f1.f2)) ∧ w'.cell? ⟨(ad562.add ((x6_3).toNat * 6)).block, (ad562.add ((x6_3).toNat * 6)).off + 4, none⟩ = some (.slice A562_4 ((rd_T70 l1_4 x6_3).f1.f3).length c562_4) ∧ w'.cell? ⟨(ad562.add ((x6_3).toNat * 6)).block, (ad562.add ((x6_3).toNat * 6)).off + 5, none⟩ = some (.slice A562_5 ((rd_T70 l1_4 x6_3).f1.f4).length c562_5)) (ds := []) (bz 29 0) (by kernel_rfl) rfl rfl ⟨s_x BK556.out 4, s_x BK557.out 4, (s_m HB.out hw561_0), (s_m HB.out hw561_1), (s_m HB.out hw561_2), (s_m HB.out hw561_3), (s_m HB.out hw561_4), (s_m HB.out hw561_5), (s_m HB.out hw562_0), (s_m HB.out hw562_1), (s_m HB.out hw562_2), (s_m HB.out hw562_3), (s_m HB.out hw562_4), (s_m HB.out hw562_5), (s_m HB.out hw563_0), (s_m HB.out hw563_1), (s_m HB.out hw563_2), (s_m HB.out hw563_3), (s_m HB.out hw563_4), (s_m HB.out hw563_5), (s_m HB.out hw564_0), (s_m HB.out hw564_1), (s_m HB.out hw564_2), (s_m HB.out hw564_3), (s_m HB.out hw564_4), (s_m HB.out hw564_5)⟩ (fun hHeld => ?_); refine with_tabW orchestratorref21_SameValue.tab11 orchestratorref21_SameValue.bits11 (fun HT_ HW_ => ?_)
              generalize wr.drew = w53 at BK556 BK557 HB HR561_4 HR561_5 HR562_4 HR562_5 HR563_4 HR563_5 HR564_4 HR564_5 hx561_0 hx561_1 hx561_2 hx561_3 hx561_4 hx561_5 hx562_0 hx562_1 hx562_2 hx562_3 hx562_4 hx562_5 hx563_0 hx563_1 hx563_2 hx563_3 hx563_4 hx563_5 hx564_0 hx564_1 hx564_2 hx564_3 hx564_4 hx564_5 hHeld ⊢
              refine q_p 0 (some 70) (bz 29 1) (any_of HT_.out (by kernel_rfl)) (v := ?_) ?_ (a' := ?_) ?_ ?_; rotate_left 2
              ·intro w'; go_simp; with_reducible rfl
              ·simp only [Act.put, List.setIfInBounds_toArray, List.set_cons_zero, List.set_cons_succ, i64_w, i32_w]; rfl
              refine q_p 2 (some 72) (bz 29 5) (any_of HT_.out (by kernel_rfl)) (v := ?_) ?_ (a' := ?_) ?_ ?_; rotate_left 2
              ·intro w'; go_simp; with_reducible rfl
              ·simp only [Act.put, List.setIfInBounds_toArray, List.set_cons_zero, List.set_cons_succ, i64_w, i32_w]; rfl
              refine q_p 6 (some 76) (bz 29 69) (any_of HT_.out (by kernel_rfl)) (v := ?_) ?_ (a' := ?_) ?_ ?_; rotate_left 2
              ·intro w'; go_simp; with_reducible rfl
              ·simp only [Act.put, List.setIfInBounds_toArray, List.set_cons_zero, List.set_cons_succ, i64_w, i32_w]; rfl
              refine q_p 8 (some 78) (bz 29 325) (any_of HT_.out (by kernel_rfl)) (v := ?_) ?_ (a' := ?_) ?_ ?_; rotate_left 2
              ·intro w'; go_simp; with_reducible rfl
              ·simp only [Act.put, List.setIfInBounds_toArray, List.set_cons_zero, List.set_cons_succ, i64_w, i32_w]; rfl
              refine q_t 1 (some 71) (bz 29 327) (take_ofW HT_.out HW_.out (by kernel_rfl)) hHeld (v := ?_) ?_ (a' := ?_) ?_ ?_; rotate_left 2
              ·rintro w' ⟨s0, s1, s2, s3, s4, s5, s6, s7, s8, s9, s10, s11, s12, s13, s14, s15, s16, s17, s18, s19, s20, s21, s22, s23, s24, s25⟩; go_simp; with_reducible rfl
              ·simp only [Act.put, List.setIfInBounds_toArray, List.set_cons_zero, List.set_cons_succ, i64_w, i32_w]; rfl
              refine q_p 3 (some 73) (bz 29 335) (any_of HT_.out (by kernel_rfl)) (v := ?_) ?_ (a' := ?_) ?_ ?_; rotate_left 2
              ·intro w'; go_simp; with_reducible rfl
              ·simp only [Act.put, List.setIfInBounds_toArray, List.set_cons_zero, List.set_cons_succ, i64_w, i32_w]; rfl
              refine q_p 4 (some 74) (bz 29 351) (any_of HT_.out (by kernel_rfl)) (v := ?_) ?_ (a' := ?_) ?_ ?_; rotate_left 2
              ·intro w'; go_simp; with_reducible rfl
              ·simp only [Act.put, List.setIfInBounds_toArray, List.set_cons_zero, List.set_cons_succ, i64_w, i32_w]; rfl
              refine q_t 5 (some 75) (bz 29 383) (take_ofW HT_.out HW_.out (by kernel_rfl)) hHeld (v := ?_) ?_ (a' := ?_) ?_ ?_; rotate_left 2
              ·rintro w' ⟨s0, s1, s2, s3, s4, s5, s6, s7, s8, s9, s10, s11, s12, s13, s14, s15, s16, s17, s18, s19, s20, s21, s22, s23, s24, s25⟩; go_simp; with_reducible rfl
              ·simp only [Act.put, List.setIfInBounds_toArray, List.set_cons_zero, List.set_cons_succ, i64_w, i32_w]; rfl
              refine q_t 7 (some 77) (bz 29 511) (take_ofW HT_.out HW_.out (by kernel_rfl)) hHeld (v := ?_) ?_ (a' := ?_) ?_ ?_; rotate_left 2
              ·rintro w' ⟨s0, s1, s2, s3, s4, s5, s6, s7, s8, s9, s10, s11, s12, s13, s14, s15, s16, s17, s18, s19, s20, s21, s22, s23, s24, s25⟩; go_simp; with_reducible rfl
              ·simp only [Act.put, List.setIfInBounds_toArray, List.set_cons_zero, List.set_cons_succ, i64_w, i32_w]; rfl
              refine q_p 9 (some 79) (bz 29 1023) (any_of HT_.out (by kernel_rfl)) (v := ?_) ?_ (a' := ?_) ?_ ?_; rotate_left 2
              ·intro w'; go_simp; with_reducible rfl
              ·simp only [Act.put, List.setIfInBounds_toArray, List.set_cons_zero, List.set_cons_succ, i64_w, i32_w]; rfl
              refine q_p 10 (some 80) (bz 29 2047) (any_of HT_.out (by kernel_rfl)) (v := ?_) ?_ (a' := ?_) ?_ ?_; rotate_left 2
              ·intro w'; go_simp; with_reducible rfl
              ·simp only [Act.put, List.setIfInBounds_toArray, List.set_cons_zero, List.set_cons_succ, i64_w, i32_w]; rfl
              refine q_t 11 (some 81) (bz 29 4095) (take_ofW HT_.out HW_.out (by kernel_rfl)) hHeld (v := ?_) ?_ (a' := ?_) ?_ ?_; rotate_left 2
              ·rintro w' ⟨s0, s1, s2, s3, s4, s5, s6, s7, s8, s9, s10, s11, s12, s13, s14, s15, s16, s17, s18, s19, s20, s21, s22, s23, s24, s25⟩; go_simp; with_reducible rfl
              ·simp only [Act.put, List.setIfInBounds_toArray, List.set_cons_zero, List.set_cons_succ, i64_w, i32_w]; rfl
              refine q_p 12 (some 82) (bz 29 8191) (any_of HT_.out (by kernel_rfl)) (v := ?_) ?_ (a' := ?_) ?_ ?_; rotate_left 2
              ·intro w'; go_simp; with_reducible rfl
              ·simp only [Act.put, List.setIfInBounds_toArray, List.set_cons_zero, List.set_cons_succ, i64_w, i32_w]; rfl
              refine q_p 13 (some 83) (bz 29 16383) (any_of HT_.out (by kernel_rfl)) (v := ?_) ?_ (a' := ?_) ?_ ?_; rotate_left 2
              ·intro w'; go_simp; with_reducible rfl
              ·simp only [Act.put, List.setIfInBounds_toArray, List.set_cons_zero, List.set_cons_succ, i64_w, i32_w]; rfl
              refine q_p 14 (some 84) (bz 29 32767) (any_of HT_.out (by kernel_rfl)) (v := ?_) ?_ (a' := ?_) ?_ ?_; rotate_left 2
              ·intro w'; go_simp; with_reducible rfl
              ·simp only [Act.put, List.setIfInBounds_toArray, List.set_cons_zero, List.set_cons_succ, i64_w, i32_w]; rfl
              refine q_p 16 (some 86) (bz 29 98303) (any_of HT_.out (by kernel_rfl)) (v := ?_) ?_ (a' := ?_) ?_ ?_; rotate_left 2
              ·intro w'; go_simp; with_reducible rfl
              ·simp only [Act.put, List.setIfInBounds_toArray, List.set_cons_zero, List.set_cons_succ, i64_w, i32_w]; rfl
              refine q_p 20 (some 90) (bz 29 1146879) (any_of HT_.out (by kernel_rfl)) (v := ?_) ?_ (a' := ?_) ?_ ?_; rotate_left 2
              ·intro w'; go_simp; with_reducible rfl
              ·simp only [Act.put, List.setIfInBounds_toArray, List.set_cons_zero, List.set_cons_succ, i64_w, i32_w]; rfl
              refine q_p 22 (some 92) (bz 29 5341183) (any_of HT_.out (by kernel_rfl)) (v := ?_) ?_ (a' := ?_) ?_ ?_; rotate_left 2
              ·intro w'; go_simp; with_reducible rfl
              ·simp only [Act.put, List.setIfInBounds_toArray, List.set_cons_zero, List.set_cons_succ, i64_w, i32_w]; rfl
              refine q_t 15 (some 85) (bz 29 5373951) (take_ofW HT_.out HW_.out (by kernel_rfl)) hHeld (v := ?_) ?_ (a' := ?_) ?_ ?_; rotate_left 2
              ·rintro w' ⟨s0, s1, s2, s3, s4, s5, s6, s7, s8, s9, s10, s11, s12, s13, s14, s15, s16, s17, s18, s19, s20, s21, s22, s23, s24, s25⟩; go_simp; with_reducible rfl
              ·simp only [Act.put, List.setIfInBounds_toArray, List.set_cons_zero, List.set_cons_succ, i64_w, i32_w]; rfl
              refine q_p 17 (some 87) (bz 29 5505023) (any_of HT_.out (by kernel_rfl)) (v := ?_) ?_ (a' := ?_) ?_ ?_; rotate_left 2
              ·intro w'; go_simp; with_reducible rfl
              ·simp only [Act.put, List.setIfInBounds_toArray, List.set_cons_zero, List.set_cons_succ, i64_w, i32_w]; rfl
              refine q_p 18 (some 88) (bz 29 5767167) (any_of HT_.out (by kernel_rfl)) (v := ?_) ?_ (a' := ?_) ?_ ?_; rotate_left 2
              ·intro w'; go_simp; with_reducible rfl
              ·simp only [Act.put, List.setIfInBounds_toArray, List.set_cons_zero, List.set_cons_succ, i64_w, i32_w]; rfl
              refine q_t 19 (some 89) (bz 29 6291455) (take_ofW HT_.out HW_.out (by kernel_rfl)) hHeld (v := ?_) ?_ (a' := ?_) ?_ ?_; rotate_left 2
              ·rintro w' ⟨s0, s1, s2, s3, s4, s5, s6, s7, s8, s9, s10, s11, s12, s13, s14, s15, s16, s17, s18, s19, s20, s21, s22, s23, s24, s25⟩; (refine (s_ld rfl 31 (.tmp 88) ?_ _ ?_ _ _ (cells_at s15 (s_cc s16 (s_cc s17 (s_cc s18 (s_cc s19 s_cn))))) Try.underlying31 (by rfl) sz31).trans ?_ <;> first | (with_reducible rfl) | rfl)
              ·simp only [Act.put, List.setIfInBounds_toArray, List.set_cons_zero, List.set_cons_succ, i64_w, i32_w]; rfl
              refine q_t 21 (some 91) (bz 29 8388607) (take_ofW HT_.out HW_.out (by kernel_rfl)) hHeld (v := ?_) ?_ (a' := ?_) ?_ ?_; rotate_left 2
              ·rintro w' ⟨s0, s1, s2, s3, s4, s5, s6, s7, s8, s9, s10, s11, s12, s13, s14, s15, s16, s17, s18, s19, s20, s21, s22, s23, s24, s25⟩; go_simp; with_reducible rfl
              ·simp only [Act.put, List.setIfInBounds_toArray, List.set_cons_zero, List.set_cons_succ, i64_w, i32_w]; rfl
              refine q_p 23 (some 93) (bz 29 16777215) (any_of HT_.out (by kernel_rfl)) (v := ?_) ?_ (a' := ?_) ?_ ?_; rotate_left 2
              ·intro w'; go_simp; with_reducible rfl
              ·simp only [Act.put, List.setIfInBounds_toArray, List.set_cons_zero, List.set_cons_succ, i64_w, i32_w]; rfl
              refine q_p 24 (some 94) (bz 29 33554431) (any_of HT_.out (by kernel_rfl)) (v := ?_) ?_ (a' := ?_) ?_ ?_; rotate_left 2
              ·intro w'; go_simp; with_reducible rfl
              ·simp only [Act.put, List.setIfInBounds_toArray, List.set_cons_zero, List.set_cons_succ, i64_w, i32_w]; rfl
              refine q_t 25 (some 95) (bz 29 67108863) (take_ofW HT_.out HW_.out (by kernel_rfl)) hHeld (v := ?_) ?_ (a' := ?_) ?_ ?_; rotate_left 2
              ·rintro w' ⟨s0, s1, s2, s3, s4, s5, s6, s7, s8, s9, s10, s11, s12, s13, s14, s15, s16, s17, s18, s19, s20, s21, s22, s23, s24, s25⟩; (refine (s_ld rfl 31 (.tmp 94) ?_ _ ?_ _ _ (cells_at s21 (s_cc s22 (s_cc s23 (s_cc s24 (s_cc s25 s_cn))))) Try.underlying31 (by rfl) sz31).trans ?_ <;> first | (with_reducible rfl) | rfl)
              ·simp only [Act.put, List.setIfInBounds_toArray, List.set_cons_zero, List.set_cons_succ, i64_w, i32_w]; rfl
              refine one_ (i := 26) (N := some 96) (bz 29 134217727) rfl rfl (one_of HT_.out (by kernel_rfl)) (by decide) (fun K hK => ?_)
              refine goes_ Try.func22 (by kernel_rfl) rfl #[.agg #[.int .i64 ((rd_T70 l0_4 x6_3).f1.f0), .int .i64 ((rd_T70 l0_4 x6_3).f1.f1), .string ((rd_T70 l0_4 x6_3).f1.f2), .slice A561_4 ((rd_T70 l0_4 x6_3).f1.f3).length c561_4, .slice A561_5 ((rd_T70 l0_4 x6_3).f1.f4).length c561_5], .agg #[.int .i64 ((rd_T70 l1_4 x6_3).f1.f0), .int .i64 ((rd_T70 l1_4 x6_3).f1.f1), .string ((rd_T70 l1_4 x6_3).f1.f2), .slice A562_4 ((rd_T70 l1_4 x6_3).f1.f3).length c562_4, .slice A562_5 ((rd_T70 l1_4 x6_3).f1.f4).length c562_5]] (by rfl) rfl rfl (by (try simp only [List.map_toArray, List.map_cons, List.map_nil]); first | done | rfl | (simp only [List.length_drop, List.length_take]; rfl)) ?_
              with_reducible refine (ih k3 (by have := HJ2.out; have := HK2.out; have := HK3.out; omega) _ _ _ _ _ _ _ _ _ _ _ _ _ _ _ _ _ _ _ _ ?side1 ?side2 ?side3 ?side4 ?side5 ?side6 ?side7 ?side8 A45.out).mono ?_
              (case side1 => exact s_D HR563_4.out HB.out)
              (case side2 => exact HC563_4.out)
              (case side3 => exact s_D HR563_5.out HB.out)
              (case side4 => exact HC563_5.out)
              (case side5 => exact s_D HR564_4.out HB.out)
              (case side6 => exact HC564_4.out)
              (case side7 => exact s_D HR564_5.out HB.out)
              (case side8 => exact HC564_5.out)
              rintro e w54 ⟨rfl, hb⟩
              refine ⟨_, rfl, ?_⟩
              replace BK556 := s_a (blk_below (s_k BK556.out) hb)
              replace BK557 := s_a (blk_below (s_k BK557.out) hb)
              replace HB := s_a (below_step (by exact s_b HB.out) hb)
              (try clear hb)
              refine hK.out _ _ ⟨s_x BK556.out 4, s_x BK557.out 4, (s_m HB.out hw561_0), (s_m HB.out hw561_1), (s_m HB.out hw561_2), (s_m HB.out hw561_3), (s_m HB.out hw561_4), (s_m HB.out hw561_5), (s_m HB.out hw562_0), (s_m HB.out hw562_1), (s_m HB.out hw562_2), (s_m HB.out hw562_3), (s_m HB.out hw562_4), (s_m HB.out hw562_5), (s_m HB.out hw563_0), (s_m HB.out hw563_1), (s_m HB.out hw563_2), (s_m HB.out hw563_3), (s_m HB.out hw563_4), (s_m HB.out hw563_5), (s_m HB.out hw564_0), (s_m HB.out hw564_1), (s_m HB.out hw564_2), (s_m HB.out hw564_3), (s_m HB.out hw564_4), (s_m HB.out hw564_5)⟩ (fun hHeld => ?_)
              clear hK K
              refine norm_ (a' := ?_) ?_ ?_
              rotate_left
              ·show Act.put _ (some 96) _ = _
               simp only [Act.put, List.setIfInBounds_toArray, List.set_cons_zero, List.set_cons_succ, i64_w, i32_w]
               rfl
              refine q_p 27 (some 97) (bz 29 268435455) (any_of HT_.out (by kernel_rfl)) (v := ?_) ?_ (a' := ?_) ?_ ?_; rotate_left 2
              ·intro w'; go_simp; with_reducible rfl
              ·simp only [Act.put, List.setIfInBounds_toArray, List.set_cons_zero, List.set_cons_succ, i64_w, i32_w]; rfl
              refine q_p 28 (some 98) (bz 29 536870911) (any_of HT_.out (by kernel_rfl)) (v := ?_) ?_ (a' := ?_) ?_ ?_; rotate_left 2
              ·intro w'; go_simp; with_reducible rfl
              ·simp only [Act.put, List.setIfInBounds_toArray, List.set_cons_zero, List.set_cons_succ, i64_w, i32_w]; rfl
              refine done_ (done_of HT_.out (by kernel_rfl)) ?_
              try go_wp2
              go_ret
              exact ⟨by first | rfl | (simp [errW_none, errW_some] <;> rfl) | (simp [*, errW_none, errW_some] <;> rfl), by exact s_b HB.out⟩
            ·rw [if_neg c44] at H
             have c44b0 : (((rd_T70 l0_4 x6_3).f0).toList == ((rd_T70 l1_4 x6_3).f0).toList) = false := beq_eq_false_iff_ne.mpr c44
             have c44b1 : (((rd_T70 l0_4 x6_3).f0).toList != ((rd_T70 l1_4 x6_3).f0).toList) = true := bne_iff_ne.mpr c44
             obtain rfl := Option.some.inj H
             have hnb55 := NB556_557.out
             have hnc55 := NB557_556.out
             obtain ⟨hcz56_0, hcz56_1, hcz56_2, hcz56_3, hcz56_4⟩ := cells31 BK556.out
             try go_wp2
             replace BK556 := s_a (blk_drew BK556.out)
             replace BK557 := s_a (blk_drew BK557.out)
             replace HB := s_a (below_drew1 HB.out)
             have p561 : 0 ≤ (x6_3 : Int) := of_decide_eq_true (by first | (with_reducible assumption) | assumption)
             have q561 : x6_3 < (l0_4.length : Int) := of_decide_eq_true (by first | (with_reducible assumption) | assumption)
             obtain ⟨ad561, A561_4, c561_4, A561_5, c561_5, e561, hx561_0, hx561_1, hx561_2, hx561_3, hx561_4, hx561_5, hl561_4, hi561_4, hl561_5, hi561_5⟩ := at_T70 HR0_4.out x6_3 p561 q561
             have hw561_5 := hx561_5
             have hw561_4 := hx561_4
             have hw561_3 := hx561_3
             have hw561_2 := hx561_2
             have hw561_1 := hx561_1
             have hw561_0 := hx561_0
             cases e561
             replace hx561_0 := s_m HB.out hx561_0
             replace hx561_1 := s_m HB.out hx561_1
             replace hx561_2 := s_m HB.out hx561_2
             replace hx561_3 := s_m HB.out hx561_3
             replace hx561_4 := s_m HB.out hx561_4
             replace hx561_5 := s_m HB.out hx561_5
             have HR561_4 := s_a hi561_4
             have HC561_4 := s_a hl561_4
             clear hi561_4 hl561_4
             have HR561_5 := s_a hi561_5
             have HC561_5 := s_a hl561_5
             clear hi561_5 hl561_5
             replace p561 := eq_true p561
             replace q561 := eq_true q561
             have p562 : 0 ≤ (x6_3 : Int) := of_decide_eq_true (by first | (with_reducible assumption) | assumption)
             have q562 : x6_3 < (l1_4.length : Int) := of_decide_eq_true (by first | (with_reducible assumption) | assumption)
             obtain ⟨ad562, A562_4, c562_4, A562_5, c562_5, e562, hx562_0, hx562_1, hx562_2, hx562_3, hx562_4, hx562_5, hl562_4, hi562_4, hl562_5, hi562_5⟩ := at_T70 HR1_4.out x6_3 p562 q562
             have hw562_5 := hx562_5
             have hw562_4 := hx562_4
             have hw562_3 := hx562_3
             have hw562_2 := hx562_2
             have hw562_1 := hx562_1
             have hw562_0 := hx562_0
             cases e562
             replace hx562_0 := s_m HB.out hx562_0
             replace hx562_1 := s_m HB.out hx562_1
             replace hx562_2 := s_m HB.out hx562_2
             replace hx562_3 := s_m HB.out hx562_3
             replace hx562_4 := s_m HB.out hx562_4
             replace hx562_5 := s_m HB.out hx562_5
             have HR562_4 := s_a hi562_4
             have HC562_4 := s_a hl562_4
             clear hi562_4 hl562_4
             have HR562_5 := s_a hi562_5
             have HC562_5 := s_a hl562_5
             clear hi562_5 hl562_5
             replace p562 := eq_true p562
             replace q562 := eq_true q562
             refine start_ (n := 29) (S := fun w' => w'.cell? ⟨gb556, 4, none⟩ = some (.slice (some ad561) l0_4.length c0_4) ∧ w'.cell? ⟨gb557, 4, none⟩ = some (.slice (some ad562) l1_4.length c1_4) ∧ w'.cell? (ad561.add ((x6_3).toNat * 6)) = some (.string ((rd_T70 l0_4 x6_3).f0)) ∧ w'.cell? ⟨(ad561.add ((x6_3).toNat * 6)).block, (ad561.add ((x6_3).toNat * 6)).off + 1, none⟩ = some (.int .i64 ((rd_T70 l0_4 x6_3).f1.f0)) ∧ w'.cell? ⟨(ad561.add ((x6_3).toNat * 6)).block, (ad561.add ((x6_3).toNat * 6)).off + 2, none⟩ = some (.int .i64 ((rd_T70 l0_4 x6_3).f1.f1)) ∧ w'.cell? ⟨(ad561.add ((x6_3).toNat * 6)).block, (ad561.add ((x6_3).toNat * 6)).off + 3, none⟩ = some (.string ((rd_T70 l0_4 x6_3).f1.f2)) ∧ w'.cell? ⟨(ad561.add ((x6_3).toNat * 6)).block, (ad561.add ((x6_3).toNat * 6)).off + 4, none⟩ = some (.slice A561_4 ((rd_T70 l0_4 x6_3).f1.f3).length c561_4) ∧ w'.cell? ⟨(ad561.add ((x6_3).toNat * 6)).block, (ad561.add ((x6_3).toNat * 6)).off + 5, none⟩ = some (.slice A561_5 ((rd_T70 l0_4 x6_3).f1.f4).length c561_5) ∧ w'.cell? (ad562.add ((x6_3).toNat * 6)) = some (.string ((rd_T70 l1_4 x6_3).f0)) ∧ w'.cell? ⟨(ad562.add ((x6_3).toNat * 6)).block, (ad562.add ((x6_3).toNat * 6)).off + 1, none⟩ = some (.int .i64 ((rd_T70 l1_4 x6_3).f1.f0)) ∧ w'.cell? ⟨(ad562.add ((x6_3).toNat * 6)).block, (ad562.add ((x6_3).toNat * 6)).off + 2, none⟩ = some (.int .i64 ((rd_T70 l1_4 x6_3).f1.f1)) ∧ w'.cell? ⟨(ad562.add ((x6_3).toNat * 6)).block, (ad562.add ((x6_3).toNat * 6)).off + 3, none⟩ = some (.string ((rd_T70 l1_4 x6_3).f1.f2)) ∧ w'.cell? ⟨(ad562.add ((x6_3).toNat * 6)).block, (ad562.add ((x6_3).toNat * 6)).off + 4, none⟩ = some (.slice A562_4 ((rd_T70 l1_4 x6_3).f1.f3).length c562_4) ∧ w'.cell? ⟨(ad562.add ((x6_3).toNat * 6)).block, (ad562.add ((x6_3).toNat * 6)).off + 5, none⟩ = some (.slice A562_5 ((rd_T70 l1_4 x6_3).f1.f4).length c562_5)) (ds := []) (bz 29 0) (by kernel_rfl) rfl rfl ⟨s_x BK556.out 4, s_x BK557.out 4, (s_m HB.out hw561_0), (s_m HB.out hw561_1), (s_m HB.out hw561_2), (s_m HB.out hw561_3), (s_m HB.out hw561_4), (s_m HB.out hw561_5), (s_m HB.out hw562_0), (s_m HB.out hw562_1), (s_m HB.out hw562_2), (s_m HB.out hw562_3), (s_m HB.out hw562_4), (s_m HB.out hw562_5)⟩ (fun hHeld => ?_); refine with_tabW orchestratorref21_SameValue.tab11 orchestratorref21_SameValue.bits11 (fun HT_ HW_ => ?_)
             generalize wr.drew = w57 at BK556 BK557 HB HR561_4 HR561_5 HR562_4 HR562_5 hx561_0 hx561_1 hx561_2 hx561_3 hx561_4 hx561_5 hx562_0 hx562_1 hx562_2 hx562_3 hx562_4 hx562_5 hHeld ⊢
             refine q_p 0 (some 70) (bz 29 1) (any_of HT_.out (by kernel_rfl)) (v := ?_) ?_ (a' := ?_) ?_ ?_; rotate_left 2
             ·intro w'; go_simp; with_reducible rfl
             ·simp only [Act.put, List.setIfInBounds_toArray, List.set_cons_zero, List.set_cons_succ, i64_w, i32_w]; rfl
             refine q_p 2 (some 72) (bz 29 5) (any_of HT_.out (by kernel_rfl)) (v := ?_) ?_ (a' := ?_) ?_ ?_; rotate_left 2
             ·intro w'; go_simp; with_reducible rfl
             ·simp only [Act.put, List.setIfInBounds_toArray, List.set_cons_zero, List.set_cons_succ, i64_w, i32_w]; rfl
             refine q_p 6 (some 76) (bz 29 69) (any_of HT_.out (by kernel_rfl)) (v := ?_) ?_ (a' := ?_) ?_ ?_; rotate_left 2
             ·intro w'; go_simp; with_reducible rfl
             ·simp only [Act.put, List.setIfInBounds_toArray, List.set_cons_zero, List.set_cons_succ, i64_w, i32_w]; rfl
             refine q_p 8 (some 78) (bz 29 325) (any_of HT_.out (by kernel_rfl)) (v := ?_) ?_ (a' := ?_) ?_ ?_; rotate_left 2
             ·intro w'; go_simp; with_reducible rfl
             ·simp only [Act.put, List.setIfInBounds_toArray, List.set_cons_zero, List.set_cons_succ, i64_w, i32_w]; rfl
             refine q_t 1 (some 71) (bz 29 327) (take_ofW HT_.out HW_.out (by kernel_rfl)) hHeld (v := ?_) ?_ (a' := ?_) ?_ ?_; rotate_left 2
             ·rintro w' ⟨s0, s1, s2, s3, s4, s5, s6, s7, s8, s9, s10, s11, s12, s13⟩; go_simp; with_reducible rfl
             ·simp only [Act.put, List.setIfInBounds_toArray, List.set_cons_zero, List.set_cons_succ, i64_w, i32_w]; rfl
             refine q_p 3 (some 73) (bz 29 335) (any_of HT_.out (by kernel_rfl)) (v := ?_) ?_ (a' := ?_) ?_ ?_; rotate_left 2
             ·intro w'; go_simp; with_reducible rfl
             ·simp only [Act.put, List.setIfInBounds_toArray, List.set_cons_zero, List.set_cons_succ, i64_w, i32_w]; rfl
             refine q_p 4 (some 74) (bz 29 351) (any_of HT_.out (by kernel_rfl)) (v := ?_) ?_ (a' := ?_) ?_ ?_; rotate_left 2
             ·intro w'; go_simp; with_reducible rfl
             ·simp only [Act.put, List.setIfInBounds_toArray, List.set_cons_zero, List.set_cons_succ, i64_w, i32_w]; rfl
             refine q_t 5 (some 75) (bz 29 383) (take_ofW HT_.out HW_.out (by kernel_rfl)) hHeld (v := ?_) ?_ (a' := ?_) ?_ ?_; rotate_left 2
             ·rintro w' ⟨s0, s1, s2, s3, s4, s5, s6, s7, s8, s9, s10, s11, s12, s13⟩; go_simp; with_reducible rfl
             ·simp only [Act.put, List.setIfInBounds_toArray, List.set_cons_zero, List.set_cons_succ, i64_w, i32_w]; rfl
             refine q_t 7 (some 77) (bz 29 511) (take_ofW HT_.out HW_.out (by kernel_rfl)) hHeld (v := ?_) ?_ (a' := ?_) ?_ ?_; rotate_left 2
             ·rintro w' ⟨s0, s1, s2, s3, s4, s5, s6, s7, s8, s9, s10, s11, s12, s13⟩; go_simp; with_reducible rfl
             ·simp only [Act.put, List.setIfInBounds_toArray, List.set_cons_zero, List.set_cons_succ, i64_w, i32_w]; rfl
             refine q_p 9 (some 79) (bz 29 1023) (any_of HT_.out (by kernel_rfl)) (v := ?_) ?_ (a' := ?_) ?_ ?_; rotate_left 2
             ·intro w'; go_simp; with_reducible rfl
             ·simp only [Act.put, List.setIfInBounds_toArray, List.set_cons_zero, List.set_cons_succ, i64_w, i32_w]; rfl
             refine q_p 10 (some 80) (bz 29 2047) (any_of HT_.out (by kernel_rfl)) (v := ?_) ?_ (a' := ?_) ?_ ?_; rotate_left 2
             ·intro w'; go_simp; with_reducible rfl
             ·simp only [Act.put, List.setIfInBounds_toArray, List.set_cons_zero, List.set_cons_succ, i64_w, i32_w]; rfl
             refine q_t 11 (some 81) (bz 29 4095) (take_ofW HT_.out HW_.out (by kernel_rfl)) hHeld (v := ?_) ?_ (a' := ?_) ?_ ?_; rotate_left 2
             ·rintro w' ⟨s0, s1, s2, s3, s4, s5, s6, s7, s8, s9, s10, s11, s12, s13⟩; go_simp; with_reducible rfl
             ·simp only [Act.put, List.setIfInBounds_toArray, List.set_cons_zero, List.set_cons_succ, i64_w, i32_w]; rfl
             refine q_p 12 (some 82) (bz 29 8191) (any_of HT_.out (by kernel_rfl)) (v := ?_) ?_ (a' := ?_) ?_ ?_; rotate_left 2
             ·intro w'; go_simp; with_reducible rfl
             ·simp only [Act.put, List.setIfInBounds_toArray, List.set_cons_zero, List.set_cons_succ, i64_w, i32_w]; rfl
             refine q_p 13 (some 83) (bz 29 16383) (any_of HT_.out (by kernel_rfl)) (v := ?_) ?_ (a' := ?_) ?_ ?_; rotate_left 2
             ·intro w'; go_simp; with_reducible rfl
             ·simp only [Act.put, List.setIfInBounds_toArray, List.set_cons_zero, List.set_cons_succ, i64_w, i32_w]; rfl
             refine q_o 14 (some 84) (bz 29 32767) (any_of HT_.out (by kernel_rfl)) (a' := ?_) ?_ ?_; rotate_left
             ·simp only [Act.put, List.setIfInBounds_toArray, List.set_cons_zero, List.set_cons_succ, i64_w, i32_w]; rfl
             refine q_o 15 (some 85) (bz 29 65535) (any_of HT_.out (by kernel_rfl)) (a' := ?_) ?_ ?_; rotate_left
             ·simp only [Act.put, List.setIfInBounds_toArray, List.set_cons_zero, List.set_cons_succ, i64_w, i32_w]; rfl
             refine q_o 16 (some 86) (bz 29 131071) (any_of HT_.out (by kernel_rfl)) (a' := ?_) ?_ ?_; rotate_left
             ·simp only [Act.put, List.setIfInBounds_toArray, List.set_cons_zero, List.set_cons_succ, i64_w, i32_w]; rfl
             refine q_o 17 (some 87) (bz 29 262143) (any_of HT_.out (by kernel_rfl)) (a' := ?_) ?_ ?_; rotate_left
             ·simp only [Act.put, List.setIfInBounds_toArray, List.set_cons_zero, List.set_cons_succ, i64_w, i32_w]; rfl
             refine q_o 18 (some 88) (bz 29 524287) (any_of HT_.out (by kernel_rfl)) (a' := ?_) ?_ ?_; rotate_left
             ·simp only [Act.put, List.setIfInBounds_toArray, List.set_cons_zero, List.set_cons_succ, i64_w, i32_w]; rfl
             refine q_o 19 (some 89) (bz 29 1048575) (any_of HT_.out (by kernel_rfl)) (a' := ?_) ?_ ?_; rotate_left
             ·simp only [Act.put, List.setIfInBounds_toArray, List.set_cons_zero, List.set_cons_succ, i64_w, i32_w]; rfl
             refine q_o 20 (some 90) (bz 29 2097151) (any_of HT_.out (by kernel_rfl)) (a' := ?_) ?_ ?_; rotate_left
             ·simp only [Act.put, List.setIfInBounds_toArray, List.set_cons_zero, List.set_cons_succ, i64_w, i32_w]; rfl
             refine q_o 21 (some 91) (bz 29 4194303) (any_of HT_.out (by kernel_rfl)) (a' := ?_) ?_ ?_; rotate_left
             ·simp only [Act.put, List.setIfInBounds_toArray, List.set_cons_zero, List.set_cons_succ, i64_w, i32_w]; rfl
             refine q_o 22 (some 92) (bz 29 8388607) (any_of HT_.out (by kernel_rfl)) (a' := ?_) ?_ ?_; rotate_left
             ·simp only [Act.put, List.setIfInBounds_toArray, List.set_cons_zero, List.set_cons_succ, i64_w, i32_w]; rfl
             refine q_o 23 (some 93) (bz 29 16777215) (any_of HT_.out (by kernel_rfl)) (a' := ?_) ?_ ?_; rotate_left
             ·simp only [Act.put, List.setIfInBounds_toArray, List.set_cons_zero, List.set_cons_succ, i64_w, i32_w]; rfl
             refine q_o 24 (some 94) (bz 29 33554431) (any_of HT_.out (by kernel_rfl)) (a' := ?_) ?_ ?_; rotate_left
             ·simp only [Act.put, List.setIfInBounds_toArray, List.set_cons_zero, List.set_cons_succ, i64_w, i32_w]; rfl
             refine q_o 25 (some 95) (bz 29 67108863) (any_of HT_.out (by kernel_rfl)) (a' := ?_) ?_ ?_; rotate_left
             ·simp only [Act.put, List.setIfInBounds_toArray, List.set_cons_zero, List.set_cons_succ, i64_w, i32_w]; rfl
             refine q_o 26 (some 96) (bz 29 134217727) (any_of HT_.out (by kernel_rfl)) (a' := ?_) ?_ ?_; rotate_left
             ·simp only [Act.put, List.setIfInBounds_toArray, List.set_cons_zero, List.set_cons_succ, i64_w, i32_w]; rfl
             refine q_o 27 (some 97) (bz 29 268435455) (any_of HT_.out (by kernel_rfl)) (a' := ?_) ?_ ?_; rotate_left
             ·simp only [Act.put, List.setIfInBounds_toArray, List.set_cons_zero, List.set_cons_succ, i64_w, i32_w]; rfl
             refine q_p 28 (some 98) (bz 29 536870911) (any_of HT_.out (by kernel_rfl)) (v := ?_) ?_ (a' := ?_) ?_ ?_; rotate_left 2
             ·intro w'; go_simp; with_reducible rfl
             ·simp only [Act.put, List.setIfInBounds_toArray, List.set_cons_zero, List.set_cons_succ, i64_w, i32_w]; rfl
             refine done_ (done_of HT_.out (by kernel_rfl)) ?_
             try go_wp2
             go_ret
             exact ⟨by first | rfl | (simp [errW_none, errW_some] <;> rfl) | (simp [*, errW_none, errW_some] <;> rfl), by exact s_b HB.out⟩
           ·rw [if_neg c43] at H
            exact absurd H (by simp)
          ·rw [if_neg c42] at H
           exact absurd H (by simp)
         ·rw [if_neg c41] at H
          have c41b0 : decide (x6_3 < (l0_4.length : Int)) = false := decide_eq_false c41
          clear c41
          obtain rfl := Option.some.inj H
          have hnb58 := NB556_557.out
          have hnc58 := NB557_556.out
          obtain ⟨hcz59_0, hcz59_1, hcz59_2, hcz59_3, hcz59_4⟩ := cells31 BK556.out
          go_wp2
          go_ret
          exact ⟨by first | rfl | (simp [errW_none, errW_some] <;> rfl) | (simp [*, errW_none, errW_some] <;> rfl), by exact s_b HB.out⟩
end Go.Proofs.Ythkdpkgkejdcgaa.Q
