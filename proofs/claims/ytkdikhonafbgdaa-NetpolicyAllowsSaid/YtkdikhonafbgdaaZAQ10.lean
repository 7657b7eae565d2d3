/- Part of a claim: see its row. Conditions: stated at each. -/
import Derived.Test.YtkdikhonafbgdaaZAQ0
import Derived.Test.YtkdikhonafbgdaaZAQ9
namespace Go.Proofs.Ytkdikhonafbgdaa.Q
open Go.RowKit Go.Proofs.YtkdikhonafbgdaaW.PrintWords Go.Proofs.YtkdikhonafbgdaaW.PrintLast Go.Proofs.YtkdikhonafbgdaaW.PrintMore Go.Proofs.Ytkdikhonafbgdaa.Sh
attribute [local go_sem] max2_int min2_int max_two min_two max_three min_three max_four min_four
set_option linter.unusedVariables false
set_option linter.unusedSimpArgs false
def orchestratorref57_isolates.j0 : Nat → Bool → Bool → ByteArray → ByteArray → ByteArray → Int → Int → Int → Int → Bool → Int → List (S72) → List (S110) → List ByteArray → List (S112) → List (S74) → Bool → Bool → List (S58) → Option (Bool)
 | 0, _, _, _, _, _, _, _, _, _, _, _, _, _, _, _, _, _, _, _ => none
 | k + 1, x2, x22, x449000, x449001, x449002, x449003, x449004, x449005, x449006, x449007, x449008, x449009, x449010, x449011, x449012, x449013, x449014, x449015, x449016 => if x22 = true then (some false) else (if x2 = true then (some x449015) else (some x449014))
def orchestratorref57_isolates.f (k : Nat) (a0_0 : ByteArray) (a0_1 : ByteArray) (a0_2 : ByteArray) (a0_3 : Int) (a0_4 : Int) (a0_5 : Int) (a0_6 : Int) (a0_7 : Bool) (a0_8 : Int) (l0_9 : List (S72)) (l0_10 : List (S110)) (l0_11 : List ByteArray) (l0_12 : List (S112)) (l0_13 : List (S74)) (a0_14 : Bool) (a0_15 : Bool) (l0_16 : List (S58)) (a1_0 : ByteArray) (a1_1 : ByteArray) (a1_2 : ByteArray) (a1_3 : Int) (a1_4 : Int) (a1_5 : Int) (a1_6 : Int) (a1_7 : Bool) (a1_8 : Int) (l1_9 : List (S72)) (l1_10 : List (S110)) (l1_11 : List ByteArray) (l1_12 : List (S112)) (a1_13 : ByteArray) (a1_14 : Int) (a1_15 : Int) (a1_16 : Int) (l1_17 : List (S117)) (l1_18 : List (S74)) (l1_19 : List (S119)) (l1_20 : List (S121)) (l1_21 : List (S123)) (l1_22 : List (S125)) (a1_23 : Int) (a1_24 : Bool) (a1_25 : Int) (a1_26 : Int) (a1_27 : Int) (l1_28 : List (S127)) (a1_29 : Int) (a1_30 : ByteArray) (a1_31 : ByteArray) (a2 : Bool) : Option (Bool) := if a0_1.toList = a1_1.toList then ((orchestratorref03_Matches.f k l0_13 l1_9).bind fun t450 => (orchestratorref57_isolates.j0 k a2 (!t450) a0_0 a0_1 a0_2 a0_3 a0_4 a0_5 a0_6 a0_7 a0_8 l0_9 l0_10 l0_11 l0_12 l0_13 a0_14 a0_15 l0_16)) else (orchestratorref57_isolates.j0 k a2 true a0_0 a0_1 a0_2 a0_3 a0_4 a0_5 a0_6 a0_7 a0_8 l0_9 l0_10 l0_11 l0_12 l0_13 a0_14 a0_15 l0_16)
theorem orchestratorref57_isolates.mono_l : ∀ k, (∀ y0 y1 y2 y3 y4 y5 y6 y7 y8 y9 y10 y11 y12 y13 y14 y15 y16 y17 y18, LeO (orchestratorref57_isolates.j0 k y0 y1 y2 y3 y4 y5 y6 y7 y8 y9 y10 y11 y12 y13 y14 y15 y16 y17 y18) (orchestratorref57_isolates.j0 (k + 1) y0 y1 y2 y3 y4 y5 y6 y7 y8 y9 y10 y11 y12 y13 y14 y15 y16 y17 y18))
 | 0 => fun _ _ _ _ _ _ _ _ _ _ _ _ _ _ _ _ _ _ _ r h => by simp [orchestratorref57_isolates.j0] at h
 | k + 1 => by
  have ih0 := orchestratorref57_isolates.mono_l k
  ·intro y0 y1 y2 y3 y4 y5 y6 y7 y8 y9 y10 y11 y12 y13 y14 y15 y16 y17 y18
   unfold orchestratorref57_isolates.j0
   repeat' first
   | (with_reducible exact ih0 _ _ _ _ _ _ _ _ _ _ _ _ _ _ _ _ _ _ _)
   | (with_reducible exact orchestratorref03_Matches.mono _ _ _)
   | (with_reducible exact LeO.refl _)
   | (with_reducible exact LeO.none _)
   | (with_reducible refine LeO.ite ?_ ?_)
   | (with_reducible refine LeO.bind ?_ (fun _ => ?_))
   | exact ih0 _ _ _ _ _ _ _ _ _ _ _ _ _ _ _ _ _ _ _
   | exact orchestratorref03_Matches.mono _ _ _
   | exact LeO.none _
   | refine LeO.ite ?_ ?_
   | refine LeO.bind ?_ (fun _ => ?_)
theorem orchestratorref57_isolates.mono : ∀ a0 a1 a2 a3 a4 a5 a6 a7 a8 a9 a10 a11 a12 a13 a14 a15 a16 a17 a18 a19 a20 a21 a22 a23 a24 a25 a26 a27 a28 a29 a30 a31 a32 a33 a34 a35 a36 a37 a38 a39 a40 a41 a42 a43 a44 a45 a46 a47 a48 a49 k, LeO (orchestratorref57_isolates.f k a0 a1 a2 a3 a4 a5 a6 a7 a8 a9 a10 a11 a12 a13 a14 a15 a16 a17 a18 a19 a20 a21 a22 a23 a24 a25 a26 a27 a28 a29 a30 a31 a32 a33 a34 a35 a36 a37 a38 a39 a40 a41 a42 a43 a44 a45 a46 a47 a48 a49) (orchestratorref57_isolates.f (k + 1) a0 a1 a2 a3 a4 a5 a6 a7 a8 a9 a10 a11 a12 a13 a14 a15 a16 a17 a18 a19 a20 a21 a22 a23 a24 a25 a26 a27 a28 a29 a30 a31 a32 a33 a34 a35 a36 a37 a38 a39 a40 a41 a42 a43 a44 a45 a46 a47 a48 a49) := by
 intro a0 a1 a2 a3 a4 a5 a6 a7 a8 a9 a10 a11 a12 a13 a14 a15 a16 a17 a18 a19 a20 a21 a22 a23 a24 a25 a26 a27 a28 a29 a30 a31 a32 a33 a34 a35 a36 a37 a38 a39 a40 a41 a42 a43 a44 a45 a46 a47 a48 a49 k
 have ih0 := orchestratorref57_isolates.mono_l k
 unfold orchestratorref57_isolates.f
 repeat' first
   | (with_reducible exact ih0 _ _ _ _ _ _ _ _ _ _ _ _ _ _ _ _ _ _ _)
   | (with_reducible exact orchestratorref03_Matches.mono _ _ _)
   | (with_reducible exact LeO.refl _)
   | (with_reducible exact LeO.none _)
   | (with_reducible refine LeO.ite ?_ ?_)
   | (with_reducible refine LeO.bind ?_ (fun _ => ?_))
   | exact ih0 _ _ _ _ _ _ _ _ _ _ _ _ _ _ _ _ _ _ _
   | exact orchestratorref03_Matches.mono _ _ _
   | exact LeO.none _
   | refine LeO.ite ?_ ?_
   | refine LeO.bind ?_ (fun _ => ?_)
set_option maxHeartbeats 8000000 in
set_option maxRecDepth 100000 in
theorem orchestratorref57_isolates.calls (k : Nat) (a0_0 : ByteArray) (a0_1 : ByteArray) (a0_2 : ByteArray) (a0_3 : Int) (a0_4 : Int) (a0_5 : Int) (a0_6 : Int) (a0_7 : Bool) (a0_8 : Int) (A0_9 : Option Addr) (c0_9 : Nat) (l0_9 : List (S72)) (A0_10 : Option Addr) (c0_10 : Nat) (l0_10 : List (S110)) (A0_11 : Option Addr) (c0_11 : Nat) (l0_11 : List ByteArray) (A0_12 : Option Addr) (c0_12 : Nat) (l0_12 : List (S112)) (A0_13 : Option Addr) (c0_13 : Nat) (l0_13 : List (S74)) (a0_14 : Bool) (a0_15 : Bool) (A0_16 : Option Addr) (c0_16 : Nat) (l0_16 : List (S58)) (a1_0 : ByteArray) (a1_1 : ByteArray) (a1_2 : ByteArray) (a1_3 : Int) (a1_4 : Int) (a1_5 : Int) (a1_6 : Int) (a1_7 : Bool) (a1_8 : Int) (A1_9 : Option Addr) (c1_9 : Nat) (l1_9 : List (S72)) (A1_10 : Option Addr) (c1_10 : Nat) (l1_10 : List (S110)) (A1_11 : Option Addr) (c1_11 : Nat) (l1_11 : List ByteArray) (A1_12 : Option Addr) (c1_12 : Nat) (l1_12 : List (S112)) (a1_13 : ByteArray) (a1_14 : Int) (a1_15 : Int) (a1_16 : Int) (A1_17 : Option Addr) (c1_17 : Nat) (l1_17 : List (S117)) (A1_18 : Option Addr) (c1_18 : Nat) (l1_18 : List (S74)) (A1_19 : Option Addr) (c1_19 : Nat) (l1_19 : List (S119)) (A1_20 : Option Addr) (c1_20 : Nat) (l1_20 : List (S121)) (A1_21 : Option Addr) (c1_21 : Nat) (l1_21 : List (S123)) (A1_22 : Option Addr) (c1_22 : Nat) (l1_22 : List (S125)) (a1_23 : Int) (a1_24 : Bool) (a1_25 : Int) (a1_26 : Int) (a1_27 : Int) (A1_28 : Option Addr) (c1_28 : Nat) (l1_28 : List (S127)) (a1_29 : Int) (a1_30 : ByteArray) (a1_31 : ByteArray) (a2 : Bool) (r : Bool) (w : World) (hr0_9 : Kd.C k72 w A0_9 l0_9.length l0_9) (hc0_9 : l0_9.length ≤ c0_9) (hr0_10 : Kd.C k110 w A0_10 l0_10.length l0_10) (hc0_10 : l0_10.length ≤ c0_10) (hr0_11 : Kd.C Kd.string w A0_11 l0_11.length l0_11) (hc0_11 : l0_11.length ≤ c0_11) (hr0_12 : Kd.C k112 w A0_12 l0_12.length l0_12) (hc0_12 : l0_12.length ≤ c0_12) (hr0_13 : Kd.C k74 w A0_13 l0_13.length l0_13) (hc0_13 : l0_13.length ≤ c0_13) (hr0_16 : Kd.C k58 w A0_16 l0_16.length l0_16) (hc0_16 : l0_16.length ≤ c0_16) (hr1_9 : Kd.C k72 w A1_9 l1_9.length l1_9) (hc1_9 : l1_9.length ≤ c1_9) (hr1_10 : Kd.C k110 w A1_10 l1_10.length l1_10) (hc1_10 : l1_10.length ≤ c1_10) (hr1_11 : Kd.C Kd.string w A1_11 l1_11.length l1_11) (hc1_11 : l1_11.length ≤ c1_11) (hr1_12 : Kd.C k112 w A1_12 l1_12.length l1_12) (hc1_12 : l1_12.length ≤ c1_12) (hr1_17 : Kd.C k117 w A1_17 l1_17.length l1_17) (hc1_17 : l1_17.length ≤ c1_17) (hr1_18 : Kd.C k74 w A1_18 l1_18.length l1_18) (hc1_18 : l1_18.length ≤ c1_18) (hr1_19 : Kd.C k119 w A1_19 l1_19.length l1_19) (hc1_19 : l1_19.length ≤ c1_19) (hr1_20 : Kd.C k121 w A1_20 l1_20.length l1_20) (hc1_20 : l1_20.length ≤ c1_20) (hr1_21 : Kd.C k123 w A1_21 l1_21.length l1_21) (hc1_21 : l1_21.length ≤ c1_21) (hr1_22 : Kd.C k125 w A1_22 l1_22.length l1_22) (hc1_22 : l1_22.length ≤ c1_22) (hr1_28 : Kd.C k127 w A1_28 l1_28.length l1_28) (hc1_28 : l1_28.length ≤ c1_28) (h : orchestratorref57_isolates.f k a0_0 a0_1 a0_2 a0_3 a0_4 a0_5 a0_6 a0_7 a0_8 l0_9 l0_10 l0_11 l0_12 l0_13 a0_14 a0_15 l0_16 a1_0 a1_1 a1_2 a1_3 a1_4 a1_5 a1_6 a1_7 a1_8 l1_9 l1_10 l1_11 l1_12 a1_13 a1_14 a1_15 a1_16 l1_17 l1_18 l1_19 l1_20 l1_21 l1_22 a1_23 a1_24 a1_25 a1_26 a1_27 l1_28 a1_29 a1_30 a1_31 a2 = some r) :
  Calls Try.prog 21 #[.agg #[.string a0_0, .string a0_1, .string a0_2, .int .i64 a0_3, .int .i64 a0_4, .int .i64 a0_5, .int .i64 a0_6, .bool a0_7, .int .i64 a0_8, .slice A0_9 l0_9.length c0_9, .slice A0_10 l0_10.length c0_10, .slice A0_11 l0_11.length c0_11, .slice A0_12 l0_12.length c0_12, .slice A0_13 l0_13.length c0_13, .bool a0_14, .bool a0_15, .slice A0_16 l0_16.length c0_16], .agg #[.string a1_0, .string a1_1, .string a1_2, .int .i64 a1_3, .int .i64 a1_4, .int .i64 a1_5, .int .i64 a1_6, .bool a1_7, .int .i64 a1_8, .slice A1_9 l1_9.length c1_9, .slice A1_10 l1_10.length c1_10, .slice A1_11 l1_11.length c1_11, .slice A1_12 l1_12.length c1_12, .string a1_13, .int .i64 a1_14, .int .i64 a1_15, .int .i64 a1_16, .slice A1_17 l1_17.length c1_17, .slice A1_18 l1_18.length c1_18, .slice A1_19 l1_19.length c1_19, .slice A1_20 l1_20.length c1_20, .slice A1_21 l1_21.length c1_21, .slice A1_22 l1_22.length c1_22, .int .i64 a1_23, .bool a1_24, .int .i64 a1_25, .int .i64 a1_26, .int .i64 a1_27, .slice A1_28 l1_28.length c1_28, .int .i64 a1_29, .string a1_30, .string a1_31], .bool a2] w fun e w' => e = .returned (.bool r) ∧ Below w.heap.size w w' := by
 have hu54 := Try.underlying54
 have hu41 := Try.underlying41
 have HR0_9 := s_a hr0_9
 have HC0_9 := s_a hc0_9
 clear hr0_9 hc0_9
 have HR0_10 := s_a hr0_10
 have HC0_10 := s_a hc0_10
 clear hr0_10 hc0_10
 have HR0_11 := s_a hr0_11
 have HC0_11 := s_a hc0_11
 clear hr0_11 hc0_11
 have HR0_12 := s_a hr0_12
 have HC0_12 := s_a hc0_12
 clear hr0_12 hc0_12
 have HR0_13 := s_a hr0_13
 have HC0_13 := s_a hc0_13
 clear hr0_13 hc0_13
 have HR0_16 := s_a hr0_16
 have HC0_16 := s_a hc0_16
 clear hr0_16 hc0_16
 have HR1_9 := s_a hr1_9
 have HC1_9 := s_a hc1_9
 clear hr1_9 hc1_9
 have HR1_10 := s_a hr1_10
 have HC1_10 := s_a hc1_10
 clear hr1_10 hc1_10
 have HR1_11 := s_a hr1_11
 have HC1_11 := s_a hc1_11
 clear hr1_11 hc1_11
 have HR1_12 := s_a hr1_12
 have HC1_12 := s_a hc1_12
 clear hr1_12 hc1_12
 have HR1_17 := s_a hr1_17
 have HC1_17 := s_a hc1_17
 clear hr1_17 hc1_17
 have HR1_18 := s_a hr1_18
 have HC1_18 := s_a hc1_18
 clear hr1_18 hc1_18
 have HR1_19 := s_a hr1_19
 have HC1_19 := s_a hc1_19
 clear hr1_19 hc1_19
 have HR1_20 := s_a hr1_20
 have HC1_20 := s_a hc1_20
 clear hr1_20 hc1_20
 have HR1_21 := s_a hr1_21
 have HC1_21 := s_a hc1_21
 clear hr1_21 hc1_21
 have HR1_22 := s_a hr1_22
 have HC1_22 := s_a hc1_22
 clear hr1_22 hc1_22
 have HR1_28 := s_a hr1_28
 have HC1_28 := s_a hc1_28
 clear hr1_28 hc1_28
 have HB := s_a (Below.refl w.heap.size w)
 have H := h; unfold orchestratorref57_isolates.f at H
 clear h
 have HC4 := s_a H
 clear H
 go_enter Try.func21, Try.ntmps21
 go_upto_region 1 with (first | ((with_reducible refine gate_dst (N := 3) rfl ?_); refine box_event ?hg (N := 3) ?hd (cs := #[.string a0_0, .string a0_1, .string a0_2, .int .i64 a0_3, .int .i64 a0_4, .int .i64 a0_5, .int .i64 a0_6, .bool a0_7, .int .i64 a0_8, .slice A0_9 l0_9.length c0_9, .slice A0_10 l0_10.length c0_10, .slice A0_11 l0_11.length c0_11, .slice A0_12 l0_12.length c0_12, .slice A0_13 l0_13.length c0_13, .bool a0_14, .bool a0_15, .slice A0_16 l0_16.length c0_16]) (t := 54) ?hr ?_; (case hd => rfl); (case hg => rfl); (case hr => first | (go_simp; done) | (go_simp; rfl)); intro gb448 hg w5 hbox hb; have BK448 := s_a (hbox); have GW448 := s_a ((by rw [hg]; exact (below_size (by exact s_b HB.out)) : w.heap.size ≤ gb448)); have GE448 := s_a ((by rw [hg]; exact (below_size (by exact s_b HB.out)) : w.heap.size ≤ gb448)); replace HB := s_a (below_step (by exact s_b HB.out) hb); clear hb hbox hg) | ((with_reducible refine gate_dst (N := 4) rfl ?_); refine box_event ?hg (N := 4) ?hd (cs := #[.string a1_0, .string a1_1, .string a1_2, .int .i64 a1_3, .int .i64 a1_4, .int .i64 a1_5, .int .i64 a1_6, .bool a1_7, .int .i64 a1_8, .slice A1_9 l1_9.length c1_9, .slice A1_10 l1_10.length c1_10, .slice A1_11 l1_11.length c1_11, .slice A1_12 l1_12.length c1_12, .string a1_13, .int .i64 a1_14, .int .i64 a1_15, .int .i64 a1_16, .slice A1_17 l1_17.length c1_17, .slice A1_18 l1_18.length c1_18, .slice A1_19 l1_19.length c1_19, .slice A1_20 l1_20.length c1_20, .slice A1_21 l1_21.length c1_21, .slice A1_22 l1_22.length c1_22, .int .i64 a1_23, .bool a1_24, .int .i64 a1_25, .int .i64 a1_26, .int .i64 a1_27, .slice A1_28 l1_28.length c1_28, .int .i64 a1_29, .string a1_30, .string a1_31]) (t := 41) ?hr ?_; (case hd => rfl); (case hg => rfl); (case hr => first | (go_simp; done) | (go_simp; rfl)); intro gb449 hg w6 hbox hb; have BK449 := s_a (hbox); have GW449 := s_a ((by rw [hg]; exact (below_size (by exact s_b HB.out)) : w.heap.size ≤ gb449)); have GE449 := s_a ((by rw [hg]; exact (below_size (by exact s_b HB.out)) : w.heap.size ≤ gb449)); have NB448_449 := s_a ((by rw [hg]; exact Nat.ne_of_lt (blk_lt (s_k BK448.out)) : gb448 ≠ gb449)); have NB449_448 := s_a ((by rw [hg]; exact Nat.ne_of_gt (blk_lt (s_k BK448.out)) : gb449 ≠ gb448)); replace BK448 := s_a (blk_below (s_k BK448.out) hb); replace HB := s_a (below_step (by exact s_b HB.out) hb); clear hb hbox hg))
 (try simp only [Act.put, List.setIfInBounds_toArray, List.set_cons_zero, List.set_cons_succ])
 go_cut [22] (fun v22 wc => ∃ (kq : Nat) (x22_3 : Bool), v22 = .bool x22_3 ∧ Aside0 (orchestratorref57_isolates.j0 kq a2 x22_3 a0_0 a0_1 a0_2 a0_3 a0_4 a0_5 a0_6 a0_7 a0_8 l0_9 l0_10 l0_11 l0_12 l0_13 a0_14 a0_15 l0_16 = some r) ∧ Aside0 (kq ≤ k) ∧ Aside0 (wc.heap[gb448]? = some (.cells #[.string a0_0, .string a0_1, .string a0_2, .int .i64 a0_3, .int .i64 a0_4, .int .i64 a0_5, .int .i64 a0_6, .bool a0_7, .int .i64 a0_8, (.slice A0_9 l0_9.length c0_9), (.slice A0_10 l0_10.length c0_10), (.slice A0_11 l0_11.length c0_11), (.slice A0_12 l0_12.length c0_12), (.slice A0_13 l0_13.length c0_13), .bool a0_14, .bool a0_15, (.slice A0_16 l0_16.length c0_16)] 54 (0, 0))) ∧ Aside0 (wc.heap[gb449]? = some (.cells #[.string a1_0, .string a1_1, .string a1_2, .int .i64 a1_3, .int .i64 a1_4, .int .i64 a1_5, .int .i64 a1_6, .bool a1_7, .int .i64 a1_8, (.slice A1_9 l1_9.length c1_9), (.slice A1_10 l1_10.length c1_10), (.slice A1_11 l1_11.length c1_11), (.slice A1_12 l1_12.length c1_12), .string a1_13, .int .i64 a1_14, .int .i64 a1_15, .int .i64 a1_16, (.slice A1_17 l1_17.length c1_17), (.slice A1_18 l1_18.length c1_18), (.slice A1_19 l1_19.length c1_19), (.slice A1_20 l1_20.length c1_20), (.slice A1_21 l1_21.length c1_21), (.slice A1_22 l1_22.length c1_22), .int .i64 a1_23, .bool a1_24, .int .i64 a1_25, .int .i64 a1_26, .int .i64 a1_27, (.slice A1_28 l1_28.length c1_28), .int .i64 a1_29, .string a1_30, .string a1_31] 41 (0, 0))) ∧ Aside0 (Below w.heap.size w wc))
 case first =>
  have H := HC4.out
  clear HC4
  by_cases c7 : a0_1.toList = a1_1.toList
  ·rw [if_pos c7] at H
   have c7b0 : (a0_1.toList == a1_1.toList) = true := beq_iff_eq.mpr c7
   have c7b1 : (a0_1.toList != a1_1.toList) = false := bne_eq_false_iff_eq.mpr c7
   clear c7
   (first | rw [c7b0] | (simp only [i64_w, i32_w]; rw [c7b0]) | skip)
   replace H := Option.bind_eq_some_iff.mp H
   obtain ⟨t450, A80, H⟩ := H
   replace H : (orchestratorref57_isolates.j0 k a2 (!t450) a0_0 a0_1 a0_2 a0_3 a0_4 a0_5 a0_6 a0_7 a0_8 l0_9 l0_10 l0_11 l0_12 l0_13 a0_14 a0_15 l0_16) = some r := H
   have A8 := s_a A80
   clear A80
   have H' := s_a H
   clear H
   have hnb9 := NB448_449.out
   have hnc9 := NB449_448.out
   obtain ⟨hcz10_0, hcz10_1, hcz10_2, hcz10_3, hcz10_4, hcz10_5, hcz10_6, hcz10_7, hcz10_8, hcz10_9, hcz10_10, hcz10_11, hcz10_12, hcz10_13, hcz10_14, hcz10_15, hcz10_16⟩ := cells54 BK448.out
   obtain ⟨hcz11_0, hcz11_1, hcz11_2, hcz11_3, hcz11_4, hcz11_5, hcz11_6, hcz11_7, hcz11_8, hcz11_9, hcz11_10, hcz11_11, hcz11_12, hcz11_13, hcz11_14, hcz11_15, hcz11_16, hcz11_17, hcz11_18, hcz11_19, hcz11_20, hcz11_21, hcz11_22, hcz11_23, hcz11_24, hcz11_25, hcz11_26, hcz11_27, hcz11_28, hcz11_29, hcz11_30, hcz11_31⟩ := cells41 BK449.out
   go_wp2_with (first | (go_at_call 28; (with_reducible refine (orchestratorref03_Matches.calls k _ _ _ _ _ _ _ _ ?side1 ?side2 ?side3 ?side4 A8.out).mono ?_); (case side1 => exact s_D HR0_13.out HB.out); (case side2 => exact HC0_13.out); (case side3 => exact s_D HR1_9.out HB.out); (case side4 => exact HC1_9.out); rintro e w12 ⟨rfl, hb⟩; (try clear A8); replace BK448 := s_a (blk_below (s_k BK448.out) hb); replace BK449 := s_a (blk_below (s_k BK449.out) hb); replace HB := s_a (below_step (by exact s_b HB.out) hb); (try clear hb)))
   go_meet
   case rel => exact ⟨_, (!t450), (by first | rfl | (simp; done) | (simp [*]; done)), H', ⟨by first | omega | exact Nat.le_refl _⟩, ⟨by exact s_k BK448.out⟩, ⟨by exact s_k BK449.out⟩, ⟨by exact s_b HB.out⟩⟩
  ·rw [if_neg c7] at H
   have c7b0 : (a0_1.toList == a1_1.toList) = false := beq_eq_false_iff_ne.mpr c7
   have c7b1 : (a0_1.toList != a1_1.toList) = true := bne_iff_ne.mpr c7
   (first | rw [c7b0] | (simp only [i64_w, i32_w]; rw [c7b0]) | skip)
   have H' := s_a H
   clear H
   have hnb13 := NB448_449.out
   have hnc13 := NB449_448.out
   obtain ⟨hcz14_0, hcz14_1, hcz14_2, hcz14_3, hcz14_4, hcz14_5, hcz14_6, hcz14_7, hcz14_8, hcz14_9, hcz14_10, hcz14_11, hcz14_12, hcz14_13, hcz14_14, hcz14_15, hcz14_16⟩ := cells54 BK448.out
   obtain ⟨hcz15_0, hcz15_1, hcz15_2, hcz15_3, hcz15_4, hcz15_5, hcz15_6, hcz15_7, hcz15_8, hcz15_9, hcz15_10, hcz15_11, hcz15_12, hcz15_13, hcz15_14, hcz15_15, hcz15_16, hcz15_17, hcz15_18, hcz15_19, hcz15_20, hcz15_21, hcz15_22, hcz15_23, hcz15_24, hcz15_25, hcz15_26, hcz15_27, hcz15_28, hcz15_29, hcz15_30, hcz15_31⟩ := cells41 BK449.out
   go_wp2
   go_meet
   case rel => exact ⟨_, (true), (by first | rfl | (simp; done) | (simp [*]; done)), H', ⟨by first | omega | exact Nat.le_refl _⟩, ⟨by exact s_k BK448.out⟩, ⟨by exact s_k BK449.out⟩, ⟨by exact s_b HB.out⟩⟩
 case rest =>
  clear HC4
  try clear c1
  try clear c2
  try clear p2
  try clear c7
  try clear c7b0
  try clear c7b1
  try clear c9
  try clear c13
  try clear hcz10_0
  try clear hcz10_1
  try clear hcz10_10
  try clear hcz10_11
  try clear hcz10_12
  try clear hcz10_13
  try clear hcz10_14
  try clear hcz10_15
  try clear hcz10_16
  try clear hcz10_2
  try clear hcz10_3
  try clear hcz10_4
  try clear hcz10_5
  try clear hcz10_6
  try clear hcz10_7
  try clear hcz10_8
  try clear hcz10_9
  try clear hcz11_0
  try clear hcz11_1
  try clear hcz11_10
  try clear hcz11_11
  try clear hcz11_12
  try clear hcz11_13
  try clear hcz11_14
  try clear hcz11_15
  try clear hcz11_16
  try clear hcz11_17
  try clear hcz11_18
  try clear hcz11_19
  try clear hcz11_2
  try clear hcz11_20
  try clear hcz11_21
  try clear hcz11_22
  try clear hcz11_23
  try clear hcz11_24
  try clear hcz11_25
  try clear hcz11_26
  try clear hcz11_27
  try clear hcz11_28
  try clear hcz11_29
  try clear hcz11_3
  try clear hcz11_30
  try clear hcz11_31
  try clear hcz11_4
  try clear hcz11_5
  try clear hcz11_6
  try clear hcz11_7
  try clear hcz11_8
  try clear hcz11_9
  try clear hcz14_0
  try clear hcz14_1
  try clear hcz14_10
  try clear hcz14_11
  try clear hcz14_12
  try clear hcz14_13
  try clear hcz14_14
  try clear hcz14_15
  try clear hcz14_16
  try clear hcz14_2
  try clear hcz14_3
  try clear hcz14_4
  try clear hcz14_5
  try clear hcz14_6
  try clear hcz14_7
  try clear hcz14_8
  try clear hcz14_9
  try clear hcz15_0
  try clear hcz15_1
  try clear hcz15_10
  try clear hcz15_11
  try clear hcz15_12
  try clear hcz15_13
  try clear hcz15_14
  try clear hcz15_15
  try clear hcz15_16
  try clear hcz15_17
  try clear hcz15_18
  try clear hcz15_19
  try clear hcz15_2
  try clear hcz15_20
  try clear hcz15_21
  try clear hcz15_22
  try clear hcz15_23
  try clear hcz15_24
  try clear hcz15_25
  try clear hcz15_26
  try clear hcz15_27
  try clear hcz15_28
  try clear hcz15_29
  try clear hcz15_3
  try clear hcz15_30
  try clear hcz15_31
  try clear hcz15_4
  try clear hcz15_5
  try clear hcz15_6
  try clear hcz15_7
  try clear hcz15_8
  try clear hcz15_9
  obtain ⟨kq, x22_3, rfl, HA, HJ3, BK448, BK449, HB⟩ := hcut
  cases kq with
  | zero => exact absurd HA.out (by simp [orchestratorref57_isolates.j0])
  | succ kj3 =>
   have H := HA.out
   clear HA
   simp only [orchestratorref57_isolates.j0] at H
   by_cases c16 : x22_3 = true
   ·subst c16
    (try rw [if_pos rfl] at H)
    obtain rfl := Option.some.inj H
    go_wp2
    go_ret
    exact ⟨by first | rfl | (simp [errW_none, errW_some] <;> rfl) | (simp [*, errW_none, errW_some] <;> rfl), by exact s_b HB.out⟩
   ·replace c16 := Bool.eq_false_iff.mpr c16
    subst c16
    (try rw [if_neg (show ¬ (false = true) by decide)] at H)
    by_cases c17 : a2 = true
    ·subst c17
     (try rw [if_pos rfl] at H)
     obtain rfl := Option.some.inj H
     have hnb18 := NB448_449.out
     have hnc18 := NB449_448.out
     obtain ⟨hcz19_0, hcz19_1, hcz19_2, hcz19_3, hcz19_4, hcz19_5, hcz19_6, hcz19_7, hcz19_8, hcz19_9, hcz19_10, hcz19_11, hcz19_12, hcz19_13, hcz19_14, hcz19_15, hcz19_16⟩ := cells54 BK448.out
     go_wp2
     go_ret
     exact ⟨by first | rfl | (simp [errW_none, errW_some] <;> rfl) | (simp [*, errW_none, errW_some] <;> rfl), by exact s_b HB.out⟩
    ·replace c17 := Bool.eq_false_iff.mpr c17
     subst c17
     (try rw [if_neg (show ¬ (false = true) by decide)] at H)
     obtain rfl := Option.some.inj H
     have hnb20 := NB448_449.out
     have hnc20 := NB449_448.out
     obtain ⟨hcz21_0, hcz21_1, hcz21_2, hcz21_3, hcz21_4, hcz21_5, hcz21_6, hcz21_7, hcz21_8, hcz21_9, hcz21_10, hcz21_11, hcz21_12, hcz21_13, hcz21_14, hcz21_15, hcz21_16⟩ := cells54 BK448.out
     go_wp2
     go_ret
     exact ⟨by first | rfl | (simp [errW_none, errW_some] <;> rfl) | (simp [*, errW_none, errW_some] <;> rfl), by exact s_b HB.out⟩
def orchestratorref57_Isolated.l0 : Nat → List (S54) → Bool → Int → ByteArray → ByteArray → ByteArray → Int → Int → Int → Int → Bool → Int → List (S72) → List (S110) → List ByteArray → List (S112) → ByteArray → Int → Int → Int → List (S117) → List (S74) → List (S119) → List (S121) → List (S123) → List (S125) → Int → Bool → Int → Int → Int → List (S127) → Int → ByteArray → ByteArray → Option (Bool)
 | 0, _, _, _, _, _, _, _, _, _, _, _, _, _, _, _, _, _, _, _, _, _, _, _, _, _, _, _, _, _, _, _, _, _, _, _ => none
 | k + 1, x0, x2, x7, x452000, x452001, x452002, x452003, x452004, x452005, x452006, x452007, x452008, x452009, x452010, x452011, x452012, x452013, x452014, x452015, x452016, x452017, x452018, x452019, x452020, x452021, x452022, x452023, x452024, x452025, x452026, x452027, x452028, x452029, x452030, x452031 => if x7 < (x0.length : Int) then (if 0 ≤ x7 then ((orchestratorref57_isolates.f k ((rd_T54 x0 x7).f0.f0) ((rd_T54 x0 x7).f0.f1) ((rd_T54 x0 x7).f0.f2) ((rd_T54 x0 x7).f0.f3) ((rd_T54 x0 x7).f0.f4) ((rd_T54 x0 x7).f0.f5) ((rd_T54 x0 x7).f0.f6) ((rd_T54 x0 x7).f0.f7) ((rd_T54 x0 x7).f0.f8) ((rd_T54 x0 x7).f0.f9) ((rd_T54 x0 x7).f0.f10) ((rd_T54 x0 x7).f0.f11) ((rd_T54 x0 x7).f0.f12) ((rd_T54 x0 x7).f1) ((rd_T54 x0 x7).f2) ((rd_T54 x0 x7).f3) ((rd_T54 x0 x7).f4) x452000 x452001 x452002 x452003 x452004 x452005 x452006 x452007 x452008 x452009 x452010 x452011 x452012 x452013 x452014 x452015 x452016 x452017 x452018 x452019 x452020 x452021 x452022 x452023 x452024 x452025 x452026 x452027 x452028 x452029 x452030 x452031 x2).bind fun t453 => (if t453 = true then (some true) else (orchestratorref57_Isolated.l0 k x0 x2 (wrap64 (x7 + 1)) x452000 x452001 x452002 x452003 x452004 x452005 x452006 x452007 x452008 x452009 x452010 x452011 x452012 x452013 x452014 x452015 x452016 x452017 x452018 x452019 x452020 x452021 x452022 x452023 x452024 x452025 x452026 x452027 x452028 x452029 x452030 x452031))) else (none)) else (some false)
def orchestratorref57_Isolated.f (k : Nat) (l0 : List (S54)) (a1_0 : ByteArray) (a1_1 : ByteArray) (a1_2 : ByteArray) (a1_3 : Int) (a1_4 : Int) (a1_5 : Int) (a1_6 : Int) (a1_7 : Bool) (a1_8 : Int) (l1_9 : List (S72)) (l1_10 : List (S110)) (l1_11 : List ByteArray) (l1_12 : List (S112)) (a1_13 : ByteArray) (a1_14 : Int) (a1_15 : Int) (a1_16 : Int) (l1_17 : List (S117)) (l1_18 : List (S74)) (l1_19 : List (S119)) (l1_20 : List (S121)) (l1_21 : List (S123)) (l1_22 : List (S125)) (a1_23 : Int) (a1_24 : Bool) (a1_25 : Int) (a1_26 : Int) (a1_27 : Int) (l1_28 : List (S127)) (a1_29 : Int) (a1_30 : ByteArray) (a1_31 : ByteArray) (a2 : Bool) : Option (Bool) := orchestratorref57_Isolated.l0 k l0 a2 0 a1_0 a1_1 a1_2 a1_3 a1_4 a1_5 a1_6 a1_7 a1_8 l1_9 l1_10 l1_11 l1_12 a1_13 a1_14 a1_15 a1_16 l1_17 l1_18 l1_19 l1_20 l1_21 l1_22 a1_23 a1_24 a1_25 a1_26 a1_27 l1_28 a1_29 a1_30 a1_31
theorem orchestratorref57_Isolated.mono_l : ∀ k, (∀ y0 y1 y2 y3 y4 y5 y6 y7 y8 y9 y10 y11 y12 y13 y14 y15 y16 y17 y18 y19 y20 y21 y22 y23 y24 y25 y26 y27 y28 y29 y30 y31 y32 y33 y34, LeO (orchestratorref57_Isolated.l0 k y0 y1 y2 y3 y4 y5 y6 y7 y8 y9 y10 y11 y12 y13 y14 y15 y16 y17 y18 y19 y20 y21 y22 y23 y24 y25 y26 y27 y28 y29 y30 y31 y32 y33 y34) (orchestratorref57_Isolated.l0 (k + 1) y0 y1 y2 y3 y4 y5 y6 y7 y8 y9 y10 y11 y12 y13 y14 y15 y16 y17 y18 y19 y20 y21 y22 y23 y24 y25 y26 y27 y28 y29 y30 y31 y32 y33 y34))
 | 0 => fun _ _ _ _ _ _ _ _ _ _ _ _ _ _ _ _ _ _ _ _ _ _ _ _ _ _ _ _ _ _ _ _ _ _ _ r h => by simp [orchestratorref57_Isolated.l0] at h
 | k + 1 => by
  have ih0 := orchestratorref57_Isolated.mono_l k
  ·intro y0 y1 y2 y3 y4 y5 y6 y7 y8 y9 y10 y11 y12 y13 y14 y15 y16 y17 y18 y19 y20 y21 y22 y23 y24 y25 y26 y27 y28 y29 y30 y31 y32 y33 y34
   unfold orchestratorref57_Isolated.l0
   repeat' first
   | (with_reducible exact ih0 _ _ _ _ _ _ _ _ _ _ _ _ _ _ _ _ _ _ _ _ _ _ _ _ _ _ _ _ _ _ _ _ _ _ _)
   | (with_reducible exact orchestratorref57_isolates.mono _ _ _ _ _ _ _ _ _ _ _ _ _ _ _ _ _ _ _ _ _ _ _ _ _ _ _ _ _ _ _ _ _ _ _ _ _ _ _ _ _ _ _ _ _ _ _ _ _ _ _)
   | (with_reducible exact LeO.refl _)
   | (with_reducible exact LeO.none _)
   | (with_reducible refine LeO.ite ?_ ?_)
   | (with_reducible refine LeO.bind ?_ (fun _ => ?_))
   | exact ih0 _ _ _ _ _ _ _ _ _ _ _ _ _ _ _ _ _ _ _ _ _ _ _ _ _ _ _ _ _ _ _ _ _ _ _
   | exact orchestratorref57_isolates.mono _ _ _ _ _ _ _ _ _ _ _ _ _ _ _ _ _ _ _ _ _ _ _ _ _ _ _ _ _ _ _ _ _ _ _ _ _ _ _ _ _ _ _ _ _ _ _ _ _ _ _
   | exact LeO.none _
   | refine LeO.ite ?_ ?_
   | refine LeO.bind ?_ (fun _ => ?_)
theorem orchestratorref57_Isolated.mono : ∀ a0 a1 a2 a3 a4 a5 a6 a7 a8 a9 a10 a11 a12 a13 a14 a15 a16 a17 a18 a19 a20 a21 a22 a23 a24 a25 a26 a27 a28 a29 a30 a31 a32 a33 k, LeO (orchestratorref57_Isolated.f k a0 a1 a2 a3 a4 a5 a6 a7 a8 a9 a10 a11 a12 a13 a14 a15 a16 a17 a18 a19 a20 a21 a22 a23 a24 a25 a26 a27 a28 a29 a30 a31 a32 a33) (orchestratorref57_Isolated.f (k + 1) a0 a1 a2 a3 a4 a5 a6 a7 a8 a9 a10 a11 a12 a13 a14 a15 a16 a17 a18 a19 a20 a21 a22 a23 a24 a25 a26 a27 a28 a29 a30 a31 a32 a33) := by
 intro a0 a1 a2 a3 a4 a5 a6 a7 a8 a9 a10 a11 a12 a13 a14 a15 a16 a17 a18 a19 a20 a21 a22 a23 a24 a25 a26 a27 a28 a29 a30 a31 a32 a33 k
 have ih0 := orchestratorref57_Isolated.mono_l k
 unfold orchestratorref57_Isolated.f
 repeat' first
   | (with_reducible exact ih0 _ _ _ _ _ _ _ _ _ _ _ _ _ _ _ _ _ _ _ _ _ _ _ _ _ _ _ _ _ _ _ _ _ _ _)
   | (with_reducible exact orchestratorref57_isolates.mono _ _ _ _ _ _ _ _ _ _ _ _ _ _ _ _ _ _ _ _ _ _ _ _ _ _ _ _ _ _ _ _ _ _ _ _ _ _ _ _ _ _ _ _ _ _ _ _ _ _ _)
   | (with_reducible exact LeO.refl _)
   | (with_reducible exact LeO.none _)
   | (with_reducible refine LeO.ite ?_ ?_)
   | (with_reducible refine LeO.bind ?_ (fun _ => ?_))
   | exact ih0 _ _ _ _ _ _ _ _ _ _ _ _ _ _ _ _ _ _ _ _ _ _ _ _ _ _ _ _ _ _ _ _ _ _ _
   | exact orchestratorref57_isolates.mono _ _ _ _ _ _ _ _ _ _ _ _ _ _ _ _ _ _ _ _ _ _ _ _ _ _ _ _ _ _ _ _ _ _ _ _ _ _ _ _ _ _ _ _ _ _ _ _ _ _ _
   | exact LeO.none _
   | refine LeO.ite ?_ ?_
   | refine LeO.bind ?_ (fun _ => ?_)
set_option maxHeartbeats 8000000 in
set_option maxRecDepth 100000 in
theorem orchestratorref57_Isolated.calls (k : Nat) (A0 : Option Addr) (c0 : Nat) (l0 : List (S54)) (a1_0 : ByteArray) (a1_1 : ByteArray) (a1_2 : ByteArray) (a1_3 : Int) (a1_4 : Int) (a1_5 : Int) (a1_6 : Int) (a1_7 : Bool) (a1_8 : Int) (A1_9 : Option Addr) (c1_9 : Nat) (l1_9 : List (S72)) (A1_10 : Option Addr) (c1_10 : Nat) (l1_10 : List (S110)) (A1_11 : Option Addr) (c1_11 : Nat) (l1_11 : List ByteArray) (A1_12 : Option Addr) (c1_12 : Nat) (l1_12 : List (S112)) (a1_13 : ByteArray) (a1_14 : Int) (a1_15 : Int) (a1_16 : Int) (A1_17 : Option Addr) (c1_17 : Nat) (l1_17 : List (S117)) (A1_18 : Option Addr) (c1_18 : Nat) (l1_18 : List (S74)) (A1_19 : Option Addr) (c1_19 : Nat) (l1_19 : List (S119)) (A1_20 : Option Addr) (c1_20 : Nat) (l1_20 : List (S121)) (A1_21 : Option Addr) (c1_21 : Nat) (l1_21 : List (S123)) (A1_22 : Option Addr) (c1_22 : Nat) (l1_22 : List (S125)) (a1_23 : Int) (a1_24 : Bool) (a1_25 : Int) (a1_26 : Int) (a1_27 : Int) (A1_28 : Option Addr) (c1_28 : Nat) (l1_28 : List (S127)) (a1_29 : Int) (a1_30 : ByteArray) (a1_31 : ByteArray) (a2 : Bool) (r : Bool) (w : World) (hr0 : Kd.C k54 w A0 l0.length l0) (hc0 : l0.length ≤ c0) (hr1_9 : Kd.C k72 w A1_9 l1_9.length l1_9) (hc1_9 : l1_9.length ≤ c1_9) (hr1_10 : Kd.C k110 w A1_10 l1_10.length l1_10) (hc1_10 : l1_10.length ≤ c1_10) (hr1_11 : Kd.C Kd.string w A1_11 l1_11.length l1_11) (hc1_11 : l1_11.length ≤ c1_11) (hr1_12 : Kd.C k112 w A1_12 l1_12.length l1_12) (hc1_12 : l1_12.length ≤ c1_12) (hr1_17 : Kd.C k117 w A1_17 l1_17.length l1_17) (hc1_17 : l1_17.length ≤ c1_17) (hr1_18 : Kd.C k74 w A1_18 l1_18.length l1_18) (hc1_18 : l1_18.length ≤ c1_18) (hr1_19 : Kd.C k119 w A1_19 l1_19.length l1_19) (hc1_19 : l1_19.length ≤ c1_19) (hr1_20 : Kd.C k121 w A1_20 l1_20.length l1_20) (hc1_20 : l1_20.length ≤ c1_20) (hr1_21 : Kd.C k123 w A1_21 l1_21.length l1_21) (hc1_21 : l1_21.length ≤ c1_21) (hr1_22 : Kd.C k125 w A1_22 l1_22.length l1_22) (hc1_22 : l1_22.length ≤ c1_22) (hr1_28 : Kd.C k127 w A1_28 l1_28.length l1_28) (hc1_28 : l1_28.length ≤ c1_28) (h : orchestratorref57_Isolated.f k l0 a1_0 a1_1 a1_2 a1_3 a1_4 a1_5 a1_6 a1_7 a1_8 l1_9 l1_10 l1_11 l1_12 a1_13 a1_14 a1_15 a1_16 l1_17 l1_18 l1_19 l1_20 l1_21 l1_22 a1_23 a1_24 a1_25 a1_26 a1_27 l1_28 a1_29 a1_30 a1_31 a2 = some r) :
  Calls Try.prog 10 #[.slice A0 l0.length c0, .agg #[.string a1_0, .string a1_1, .string a1_2, .int .i64 a1_3, .int .i64 a1_4, .int .i64 a1_5, .int .i64 a1_6, .bool a1_7, .int .i64 a1_8, .slice A1_9 l1_9.length c1_9, .slice A1_10 l1_10.length c1_10, .slice A1_11 l1_11.length c1_11, .slice A1_12 l1_12.length c1_12, .string a1_13, .int .i64 a1_14, .int .i64 a1_15, .int .i64 a1_16, .slice A1_17 l1_17.length c1_17, .slice A1_18 l1_18.length c1_18, .slice A1_19 l1_19.length c1_19, .slice A1_20 l1_20.length c1_20, .slice A1_21 l1_21.length c1_21, .slice A1_22 l1_22.length c1_22, .int .i64 a1_23, .bool a1_24, .int .i64 a1_25, .int .i64 a1_26, .int .i64 a1_27, .slice A1_28 l1_28.length c1_28, .int .i64 a1_29, .string a1_30, .string a1_31], .bool a2] w fun e w' => e = .returned (.bool r) ∧ Below w.heap.size w w' := by
 have hu41 := Try.underlying41
 have hu54 := Try.underlying54
 have HR0 := s_a hr0
 have HC0 := s_a hc0
 clear hr0 hc0
 have HR1_9 := s_a hr1_9
 have HC1_9 := s_a hc1_9
 clear hr1_9 hc1_9
 have HR1_10 := s_a hr1_10
 have HC1_10 := s_a hc1_10
 clear hr1_10 hc1_10
 have HR1_11 := s_a hr1_11
 have HC1_11 := s_a hc1_11
 clear hr1_11 hc1_11
 have HR1_12 := s_a hr1_12
 have HC1_12 := s_a hc1_12
 clear hr1_12 hc1_12
 have HR1_17 := s_a hr1_17
 have HC1_17 := s_a hc1_17
 clear hr1_17 hc1_17
 have HR1_18 := s_a hr1_18
 have HC1_18 := s_a hc1_18
 clear hr1_18 hc1_18
 have HR1_19 := s_a hr1_19
 have HC1_19 := s_a hc1_19
 clear hr1_19 hc1_19
 have HR1_20 := s_a hr1_20
 have HC1_20 := s_a hc1_20
 clear hr1_20 hc1_20
 have HR1_21 := s_a hr1_21
 have HC1_21 := s_a hc1_21
 clear hr1_21 hc1_21
 have HR1_22 := s_a hr1_22
 have HC1_22 := s_a hc1_22
 clear hr1_22 hc1_22
 have HR1_28 := s_a hr1_28
 have HC1_28 := s_a hc1_28
 clear hr1_28 hc1_28
 have HB := s_a (Below.refl w.heap.size w)
 have H : (orchestratorref57_Isolated.l0 k l0 a2 0 a1_0 a1_1 a1_2 a1_3 a1_4 a1_5 a1_6 a1_7 a1_8 l1_9 l1_10 l1_11 l1_12 a1_13 a1_14 a1_15 a1_16 l1_17 l1_18 l1_19 l1_20 l1_21 l1_22 a1_23 a1_24 a1_25 a1_26 a1_27 l1_28 a1_29 a1_30 a1_31) = some r := h
 clear h
 have H' := s_a H
 clear H
 go_enter Try.func10, Try.ntmps10
 go_wp2_with (first | ((with_reducible refine gate_dst (N := 4) rfl ?_); refine box_event ?hg (N := 4) ?hd (cs := #[.string a1_0, .string a1_1, .string a1_2, .int .i64 a1_3, .int .i64 a1_4, .int .i64 a1_5, .int .i64 a1_6, .bool a1_7, .int .i64 a1_8, .slice A1_9 l1_9.length c1_9, .slice A1_10 l1_10.length c1_10, .slice A1_11 l1_11.length c1_11, .slice A1_12 l1_12.length c1_12, .string a1_13, .int .i64 a1_14, .int .i64 a1_15, .int .i64 a1_16, .slice A1_17 l1_17.length c1_17, .slice A1_18 l1_18.length c1_18, .slice A1_19 l1_19.length c1_19, .slice A1_20 l1_20.length c1_20, .slice A1_21 l1_21.length c1_21, .slice A1_22 l1_22.length c1_22, .int .i64 a1_23, .bool a1_24, .int .i64 a1_25, .int .i64 a1_26, .int .i64 a1_27, .slice A1_28 l1_28.length c1_28, .int .i64 a1_29, .string a1_30, .string a1_31]) (t := 41) ?hr ?_; (case hd => rfl); (case hg => rfl); (case hr => first | (go_simp; done) | (go_simp; rfl)); intro gb451 hg w4 hbox hb; have BK451 := s_a (hbox); have GW451 := s_a ((by rw [hg]; exact (below_size (by exact s_b HB.out)) : w.heap.size ≤ gb451)); have GE451 := s_a ((by rw [hg]; exact (below_size (by exact s_b HB.out)) : w.heap.size ≤ gb451)); replace HB := s_a (below_step (by exact s_b HB.out) hb); clear hb hbox hg))
 go_loopg [7] k (fun kq v7 w' => ∃ (x7_1 : Int), v7 = .int .i64 x7_1 ∧ Aside0 (orchestratorref57_Isolated.l0 kq l0 a2 x7_1 a1_0 a1_1 a1_2 a1_3 a1_4 a1_5 a1_6 a1_7 a1_8 l1_9 l1_10 l1_11 l1_12 a1_13 a1_14 a1_15 a1_16 l1_17 l1_18 l1_19 l1_20 l1_21 l1_22 a1_23 a1_24 a1_25 a1_26 a1_27 l1_28 a1_29 a1_30 a1_31 = some r) ∧ Aside0 (kq ≤ k) ∧ Aside0 (w'.heap[gb451]? = some (.cells #[.string a1_0, .string a1_1, .string a1_2, .int .i64 a1_3, .int .i64 a1_4, .int .i64 a1_5, .int .i64 a1_6, .bool a1_7, .int .i64 a1_8, (.slice A1_9 l1_9.length c1_9), (.slice A1_10 l1_10.length c1_10), (.slice A1_11 l1_11.length c1_11), (.slice A1_12 l1_12.length c1_12), .string a1_13, .int .i64 a1_14, .int .i64 a1_15, .int .i64 a1_16, (.slice A1_17 l1_17.length c1_17), (.slice A1_18 l1_18.length c1_18), (.slice A1_19 l1_19.length c1_19), (.slice A1_20 l1_20.length c1_20), (.slice A1_21 l1_21.length c1_21), (.slice A1_22 l1_22.length c1_22), .int .i64 a1_23, .bool a1_24, .int .i64 a1_25, .int .i64 a1_26, .int .i64 a1_27, (.slice A1_28 l1_28.length c1_28), .int .i64 a1_29, .string a1_30, .string a1_31] 41 (0, 0))) ∧ Aside0 (Below w.heap.size w w'))
 case atStart => exact ⟨(0), (by first | rfl | (simp; done) | (simp [*]; done)), H', ⟨Nat.le_refl _⟩, ⟨by exact s_k BK451.out⟩, ⟨by exact s_b HB.out⟩⟩
 case round =>
  clear H'
  try clear c1
  try clear p2
  obtain ⟨x7_1, rfl, HA, HK1, BK451, HB⟩ := hrel
  cases gk with
  | zero => exact absurd HA.out (by simp [orchestratorref57_Isolated.l0])
  | succ k1 =>
   have H := HA.out
   clear HA
   simp only [orchestratorref57_Isolated.l0] at H
   by_cases c5 : x7_1 < (l0.length : Int)
   ·rw [if_pos c5] at H
    have c5b0 : decide (x7_1 < (l0.length : Int)) = true := decide_eq_true c5
    clear c5
    by_cases c6 : 0 ≤ x7_1
    ·rw [if_pos c6] at H
     have c6b0 : decide (0 ≤ x7_1) = true := decide_eq_true c6
     clear c6
     replace H := Option.bind_eq_some_iff.mp H
     obtain ⟨t453, A70, H⟩ := H
     replace H : (if t453 = true then (some true) else (orchestratorref57_Isolated.l0 k1 l0 a2 (wrap64 (x7_1 + 1)) a1_0 a1_1 a1_2 a1_3 a1_4 a1_5 a1_6 a1_7 a1_8 l1_9 l1_10 l1_11 l1_12 a1_13 a1_14 a1_15 a1_16 l1_17 l1_18 l1_19 l1_20 l1_21 l1_22 a1_23 a1_24 a1_25 a1_26 a1_27 l1_28 a1_29 a1_30 a1_31)) = some r := H
     have A7 := s_a A70
     clear A70
     by_cases c8 : t453 = true
     ·subst c8
      (try rw [if_pos rfl] at H)
      obtain rfl := Option.some.inj H
      try go_wp2
      replace BK451 := s_a (blk_drew BK451.out)
      replace HB := s_a (below_drew1 HB.out)
      have p452 : 0 ≤ (x7_1 : Int) := of_decide_eq_true (by first | (with_reducible assumption) | assumption)
      have q452 : x7_1 < (l0.length : Int) := of_decide_eq_true (by first | (with_reducible assumption) | assumption)
      obtain ⟨ad452, A452_9, c452_9, A452_10, c452_10, A452_11, c452_11, A452_12, c452_12, A452_13, c452_13, A452_16, c452_16, e452, hx452_0, hx452_1, hx452_2, hx452_3, hx452_4, hx452_5, hx452_6, hx452_7, hx452_8, hx452_9, hx452_10, hx452_11, hx452_12, hx452_13, hx452_14, hx452_15, hx452_16, hl452_9, hi452_9, hl452_10, hi452_10, hl452_11, hi452_11, hl452_12, hi452_12, hl452_13, hi452_13, hl452_16, hi452_16⟩ := at_T54 HR0.out x7_1 p452 q452
      have hw452_16 := hx452_16
      have hw452_15 := hx452_15
      have hw452_14 := hx452_14
      have hw452_13 := hx452_13
      have hw452_12 := hx452_12
      have hw452_11 := hx452_11
      have hw452_10 := hx452_10
      have hw452_9 := hx452_9
      have hw452_8 := hx452_8
      have hw452_7 := hx452_7
      have hw452_6 := hx452_6
      have hw452_5 := hx452_5
      have hw452_4 := hx452_4
      have hw452_3 := hx452_3
      have hw452_2 := hx452_2
      have hw452_1 := hx452_1
      have hw452_0 := hx452_0
      cases e452
      replace hx452_0 := s_m HB.out hx452_0
      replace hx452_1 := s_m HB.out hx452_1
      replace hx452_2 := s_m HB.out hx452_2
      replace hx452_3 := s_m HB.out hx452_3
      replace hx452_4 := s_m HB.out hx452_4
      replace hx452_5 := s_m HB.out hx452_5
      replace hx452_6 := s_m HB.out hx452_6
      replace hx452_7 := s_m HB.out hx452_7
      replace hx452_8 := s_m HB.out hx452_8
      replace hx452_9 := s_m HB.out hx452_9
      replace hx452_10 := s_m HB.out hx452_10
      replace hx452_11 := s_m HB.out hx452_11
      replace hx452_12 := s_m HB.out hx452_12
      replace hx452_13 := s_m HB.out hx452_13
      replace hx452_14 := s_m HB.out hx452_14
      replace hx452_15 := s_m HB.out hx452_15
      replace hx452_16 := s_m HB.out hx452_16
      have HR452_9 := s_a hi452_9
      have HC452_9 := s_a hl452_9
      clear hi452_9 hl452_9
      have HR452_10 := s_a hi452_10
      have HC452_10 := s_a hl452_10
      clear hi452_10 hl452_10
      have HR452_11 := s_a hi452_11
      have HC452_11 := s_a hl452_11
      clear hi452_11 hl452_11
      have HR452_12 := s_a hi452_12
      have HC452_12 := s_a hl452_12
      clear hi452_12 hl452_12
      have HR452_13 := s_a hi452_13
      have HC452_13 := s_a hl452_13
      clear hi452_13 hl452_13
      have HR452_16 := s_a hi452_16
      have HC452_16 := s_a hl452_16
      clear hi452_16 hl452_16
      replace p452 := eq_true p452
      replace q452 := eq_true q452
      refine start_ (n := 7) (S := fun w' => w'.cell? ⟨gb451, 0, none⟩ = some (.string a1_0) ∧ w'.cell? ⟨gb451, 1, none⟩ = some (.string a1_1) ∧ w'.cell? ⟨gb451, 2, none⟩ = some (.string a1_2) ∧ w'.cell? ⟨gb451, 3, none⟩ = some (.int .i64 a1_3) ∧ w'.cell? ⟨gb451, 4, none⟩ = some (.int .i64 a1_4) ∧ w'.cell? ⟨gb451, 5, none⟩ = some (.int .i64 a1_5) ∧ w'.cell? ⟨gb451, 6, none⟩ = some (.int .i64 a1_6) ∧ w'.cell? ⟨gb451, 7, none⟩ = some (.bool a1_7) ∧ w'.cell? ⟨gb451, 8, none⟩ = some (.int .i64 a1_8) ∧ w'.cell? ⟨gb451, 9, none⟩ = some (.slice A1_9 l1_9.length c1_9) ∧ w'.cell? ⟨gb451, 10, none⟩ = some (.slice A1_10 l1_10.length c1_10) ∧ w'.cell? ⟨gb451, 11, none⟩ = some (.slice A1_11 l1_11.length c1_11) ∧ w'.cell? ⟨gb451, 12, none⟩ = some (.slice A1_12 l1_12.length c1_12) ∧ w'.cell? ⟨gb451, 13, none⟩ = some (.string a1_13) ∧ w'.cell? ⟨gb451, 14, none⟩ = some (.int .i64 a1_14) ∧ w'.cell? ⟨gb451, 15, none⟩ = some (.int .i64 a1_15) ∧ w'.cell? ⟨gb451, 16, none⟩ = some (.int .i64 a1_16) ∧ w'.cell? ⟨gb451, 17, none⟩ = some (.slice A1_17 l1_17.length c1_17) ∧ w'.cell? ⟨gb451, 18, none⟩ = some (.slice A1_18 l1_18.length c1_18) ∧ w'.cell? ⟨gb451, 19, none⟩ = some (.slice A1_19 l1_19.length c1_19) ∧ w'.cell? ⟨gb451, 20, none⟩ = some (.slice A1_20 l1_20.length c1_20) ∧ w'.cell? ⟨gb451, 21, none⟩ = some (.slice A1_21 l1_21.length c1_21) ∧ w'.cell? ⟨gb451, 22, none⟩ = some (.slice A1_22 l1_22.length c1_22) ∧ w'.cell? ⟨gb451, 23, none⟩ = some (.int .i64 a1_23) ∧ w'.cell? ⟨gb451, 24, none⟩ = some (.bool a1_24) ∧ w'.cell? ⟨gb451, 25, none⟩ = some (.int .i64 a1_25) ∧ w'.cell? ⟨gb451, 26, none⟩ = some (.int .i64 a1_26) ∧ w'.cell? ⟨gb451, 27, none⟩ = some (.int .i64 a1_27) ∧ w'.cell? ⟨gb451, 28, none⟩ = some (.slice A1_28 l1_28.length c1_28) ∧ w'.cell? ⟨gb451, 29, none⟩ = some (.int .i64 a1_29) ∧ w'.cell? ⟨gb451, 30, none⟩ = some (.string a1_30) ∧ w'.cell? ⟨gb451, 31, none⟩ = some (.string a1_31) ∧ w'.cell? (ad452.add ((x7_1).toNat * 17)) = some (.string ((rd_T54 l0 x7_1).f0.f0)) ∧ w'.cell? ⟨(ad452.add ((x7_1).toNat * 17)).block, (ad452.add ((x7_1).toNat * 17)).off + 1, none⟩ = some (.string ((rd_T54 l0 x7_1).f0.f1)) ∧ w'.cell? ⟨(ad452.add ((x7_1).toNat * 17)).block, (ad452.add ((x7_1).toNat * 17)).off + 2, none⟩ = some (.string ((rd_T54 l0 x7_1).f0.f2)) ∧ w'.cell? ⟨(ad452.add ((x7_1).toNat * 17)).block, (ad452.add ((x7_1).toNat * 17)).off + 3, none⟩ = some (.int .i64 ((rd_T54 l0 x7_1).f0.f3)) ∧ w'.cell? ⟨(ad452.add ((x7_1).toNat * 17)).block, (ad452.add ((x7_1).toNat * 17)).off + 4, none⟩ = some (.int .i64 ((rd_T54 l0 x7_1).f0.f4)) ∧ w'.cell? ⟨(ad452.add ((x7_1).toNat * 17)).block, (ad452.add ((x7_1).toNat * 17)).off + 5, none⟩ = some (.int .i64 ((rd_T54 l0 x7_1).f0.f5)) ∧ w'.cell? ⟨(ad452.add ((x7_1).toNat * 17)).block, (ad452.add ((x7_1).toNat * 17)).off + 6, none⟩ = some (.int .i64 ((rd_T54 l0 x7_1).f0.f6)) ∧ w'.cell? ⟨(ad452.add ((x7_1).toNat * 17)).block, (ad452.add ((x7_1).toNat * 17)).off + 7, none⟩ = some (.bool ((rd_T54 l0 x7_1).f0.f7)) ∧ w'.cell? ⟨(ad452.add ((x7_1).toNat * 17)).block, (ad452.add ((x7_1).toNat * 17)).off + 8, none⟩ = some (.int .i64 ((rd_T54 l0 x7_1).f0.f8)) ∧ w'.cell? ⟨(ad452.add ((x7_1).toNat * 17)).block, (ad452.add ((x7_1).toNat * 17)).off + 9, none⟩ = some (.slice A452_9 ((rd_T54 l0 x7_1).f0.f9).length c452_9) ∧ w'.cell? ⟨(ad452.add ((x7_1).toNat * 17)).block, (ad452.add ((x7_1).toNat * 17)).off + 10, none⟩ = some (.slice A452_10 ((rd_T54 l0 x7_1).f0.f10).length c452_10) ∧ w'.cell? ⟨(ad452.add ((x7_1).toNat * 17)).block, (ad452.add ((x7_1).toNat * 17)).off + 11, none⟩ = some (.slice A452_11 ((rd_T54 l0 x7_1).f0.f11).length c452_11) ∧ w'.cell? ⟨(ad452.add ((x7_1).toNat * 17)).block, (ad452.add ((x7_1).toNat * 17)).off + 12, none⟩ = some (.slice A452_12 ((rd_T54 l0 x7_1).f0.f12).length c452_12) ∧ w'.cell? ⟨(ad452.add ((x7_1).toNat * 17)).block, (ad452.add ((x7_1).toNat * 17)).off + 13, none⟩ = some (.slice A452_13 ((rd_T54 l0 x7_1).f1).length c452_13) ∧ w'.cell? ⟨(ad452.add ((x7_1).toNat * 17)).block, (ad452.add ((x7_1).toNat * 17)).off + 14, none⟩ = some (.bool ((rd_T54 l0 x7_1).f2)) ∧ w'.cell? ⟨(ad452.add ((x7_1).toNat * 17)).block, (ad452.add ((x7_1).toNat * 17)).off + 15, none⟩ = some (.bool ((rd_T54 l0 x7_1).f3)) ∧ w'.cell? ⟨(ad452.add ((x7_1).toNat * 17)).block, (ad452.add ((x7_1).toNat * 17)).off + 16, none⟩ = some (.slice A452_16 ((rd_T54 l0 x7_1).f4).length c452_16)) (ds := []) (bz 7 0) (by kernel_rfl) rfl rfl ⟨s_x BK451.out 0, s_x BK451.out 1, s_x BK451.out 2, s_x BK451.out 3, s_x BK451.out 4, s_x BK451.out 5, s_x BK451.out 6, s_x BK451.out 7, s_x BK451.out 8, s_x BK451.out 9, s_x BK451.out 10, s_x BK451.out 11, s_x BK451.out 12, s_x BK451.out 13, s_x BK451.out 14, s_x BK451.out 15, s_x BK451.out 16, s_x BK451.out 17, s_x BK451.out 18, s_x BK451.out 19, s_x BK451.out 20, s_x BK451.out 21, s_x BK451.out 22, s_x BK451.out 23, s_x BK451.out 24, s_x BK451.out 25, s_x BK451.out 26, s_x BK451.out 27, s_x BK451.out 28, s_x BK451.out 29, s_x BK451.out 30, s_x BK451.out 31, (s_m HB.out hw452_0), (s_m HB.out hw452_1), (s_m HB.out hw452_2), (s_m HB.out hw452_3), (s_m HB.out hw452_4), (s_m HB.out hw452_5), (s_m HB.out hw452_6), (s_m HB.out hw452_7), (s_m HB.out hw452_8), (s_m HB.out hw452_9), (s_m HB.out hw452_10), (s_m HB.out hw452_11), (s_m HB.out hw452_12), (s_m HB.out hw452_13), (s_m HB.out hw452_14), (s_m HB.out hw452_15), (s_m HB.out hw452_16)⟩ (fun hHeld => ?_)
      generalize wr.drew = w9 at BK451 HB HR452_10 HR452_11 HR452_12 HR452_13 HR452_16 HR452_9 hx452_0 hx452_1 hx452_10 hx452_11 hx452_12 hx452_13 hx452_14 hx452_15 hx452_16 hx452_2 hx452_3 hx452_4 hx452_5 hx452_6 hx452_7 hx452_8 hx452_9 hHeld ⊢
      refine q_p 0 (some 14) (bz 7 1) (by kernel_rfl) (v := ?_) ?_ (a' := ?_) ?_ ?_; rotate_left 2
      ·intro w'; go_simp; with_reducible rfl
      ·simp only [Act.put, List.setIfInBounds_toArray, List.set_cons_zero, List.set_cons_succ, i64_w, i32_w]; rfl
      refine q_p 1 (some 15) (bz 7 3) (by kernel_rfl) (v := ?_) ?_ (a' := ?_) ?_ ?_; rotate_left 2
      ·intro w'; go_simp; with_reducible rfl
      ·simp only [Act.put, List.setIfInBounds_toArray, List.set_cons_zero, List.set_cons_succ, i64_w, i32_w]; rfl
      refine q_p 2 (some 16) (bz 7 7) (by kernel_rfl) (v := ?_) ?_ (a' := ?_) ?_ ?_; rotate_left 2
      ·intro w'; go_simp; with_reducible rfl
      ·simp only [Act.put, List.setIfInBounds_toArray, List.set_cons_zero, List.set_cons_succ, i64_w, i32_w]; rfl
      refine q_p 5 (some 19) (bz 7 39) (by kernel_rfl) (v := ?_) ?_ (a' := ?_) ?_ ?_; rotate_left 2
      ·intro w'; go_simp; with_reducible rfl
      ·simp only [Act.put, List.setIfInBounds_toArray, List.set_cons_zero, List.set_cons_succ, i64_w, i32_w]; rfl
      refine q_t 3 (some 17) (bz 7 47) (by kernel_rfl) hHeld (v := ?_) ?_ (a' := ?_) ?_ ?_; rotate_left 2
      ·rintro w' ⟨s0, s1, s2, s3, s4, s5, s6, s7, s8, s9, s10, s11, s12, s13, s14, s15, s16, s17, s18, s19, s20, s21, s22, s23, s24, s25, s26, s27, s28, s29, s30, s31, s32, s33, s34, s35, s36, s37, s38, s39, s40, s41, s42, s43, s44, s45, s46, s47, s48⟩; (refine (s_ld rfl 54 (.tmp 16) ?_ _ ?_ _ _ (cells_at s32 (s_cc s33 (s_cc s34 (s_cc s35 (s_cc s36 (s_cc s37 (s_cc s38 (s_cc s39 (s_cc s40 (s_cc s41 (s_cc s42 (s_cc s43 (s_cc s44 (s_cc s45 (s_cc s46 (s_cc s47 (s_cc s48 s_cn))))))))))))))))) Try.underlying54 (by rfl) sz54).trans ?_ <;> first | (with_reducible rfl) | rfl)
      ·simp only [Act.put, List.setIfInBounds_toArray, List.set_cons_zero, List.set_cons_succ, i64_w, i32_w]; rfl
      refine q_t 4 (some 18) (bz 7 63) (by kernel_rfl) hHeld (v := ?_) ?_ (a' := ?_) ?_ ?_; rotate_left 2
      ·rintro w' ⟨s0, s1, s2, s3, s4, s5, s6, s7, s8, s9, s10, s11, s12, s13, s14, s15, s16, s17, s18, s19, s20, s21, s22, s23, s24, s25, s26, s27, s28, s29, s30, s31, s32, s33, s34, s35, s36, s37, s38, s39, s40, s41, s42, s43, s44, s45, s46, s47, s48⟩; (refine (s_ld rfl 41 (.tmp 4) ?_ _ ?_ _ _ (cells_at s0 (s_cc s1 (s_cc s2 (s_cc s3 (s_cc s4 (s_cc s5 (s_cc s6 (s_cc s7 (s_cc s8 (s_cc s9 (s_cc s10 (s_cc s11 (s_cc s12 (s_cc s13 (s_cc s14 (s_cc s15 (s_cc s16 (s_cc s17 (s_cc s18 (s_cc s19 (s_cc s20 (s_cc s21 (s_cc s22 (s_cc s23 (s_cc s24 (s_cc s25 (s_cc s26 (s_cc s27 (s_cc s28 (s_cc s29 (s_cc s30 (s_cc s31 s_cn)))))))))))))))))))))))))))))))) Try.underlying41 (by rfl) sz41).trans ?_ <;> first | (with_reducible rfl) | rfl)
      ·simp only [Act.put, List.setIfInBounds_toArray, List.set_cons_zero, List.set_cons_succ, i64_w, i32_w]; rfl
      refine one_ (i := 6) (N := some 20) (bz 7 127) rfl rfl (by kernel_rfl) (by decide) (fun K hK => ?_)
      refine goes_ Try.func21 (by kernel_rfl) rfl #[.agg #[.string ((rd_T54 l0 x7_1).f0.f0), .string ((rd_T54 l0 x7_1).f0.f1), .string ((rd_T54 l0 x7_1).f0.f2), .int .i64 ((rd_T54 l0 x7_1).f0.f3), .int .i64 ((rd_T54 l0 x7_1).f0.f4), .int .i64 ((rd_T54 l0 x7_1).f0.f5), .int .i64 ((rd_T54 l0 x7_1).f0.f6), .bool ((rd_T54 l0 x7_1).f0.f7), .int .i64 ((rd_T54 l0 x7_1).f0.f8), .slice A452_9 ((rd_T54 l0 x7_1).f0.f9).length c452_9, .slice A452_10 ((rd_T54 l0 x7_1).f0.f10).length c452_10, .slice A452_11 ((rd_T54 l0 x7_1).f0.f11).length c452_11, .slice A452_12 ((rd_T54 l0 x7_1).f0.f12).length c452_12, .slice A452_13 ((rd_T54 l0 x7_1).f1).length c452_13, .bool ((rd_T54 l0 x7_1).f2), .bool ((rd_T54 l0 x7_1).f3), .slice A452_16 ((rd_T54 l0 x7_1).f4).length c452_16], .agg #[.string a1_0, .string a1_1, .string a1_2, .int .i64 a1_3, .int .i64 a1_4, .int .i64 a1_5, .int .i64 a1_6, .bool a1_7, .int .i64 a1_8, .slice A1_9 l1_9.length c1_9, .slice A1_10 l1_10.length c1_10, .slice A1_11 l1_11.length c1_11, .slice A1_12 l1_12.length c1_12, .string a1_13, .int .i64 a1_14, .int .i64 a1_15, .int .i64 a1_16, .slice A1_17 l1_17.length c1_17, .slice A1_18 l1_18.length c1_18, .slice A1_19 l1_19.length c1_19, .slice A1_20 l1_20.length c1_20, .slice A1_21 l1_21.length c1_21, .slice A1_22 l1_22.length c1_22, .int .i64 a1_23, .bool a1_24, .int .i64 a1_25, .int .i64 a1_26, .int .i64 a1_27, .slice A1_28 l1_28.length c1_28, .int .i64 a1_29, .string a1_30, .string a1_31], .bool a2] (by rfl) rfl rfl (by (try simp only [List.map_toArray, List.map_cons, List.map_nil]); first | done | rfl | (simp only [List.length_drop, List.length_take]; rfl)) ?_
      with_reducible refine (orchestratorref57_isolates.calls k1 _ _ _ _ _ _ _ _ _ _ _ _ _ _ _ _ _ _ _ _ _ _ _ _ _ _ _ _ _ _ _ _ _ _ _ _ _ _ _ _ _ _ _ _ _ _ _ _ _ _ _ _ _ _ _ _ _ _ _ _ _ _ _ _ _ _ _ _ _ _ _ _ _ _ _ _ _ _ _ _ _ _ _ _ _ _ ?side1 ?side2 ?side3 ?side4 ?side5 ?side6 ?side7 ?side8 ?side9 ?side10 ?side11 ?side12 ?side13 ?side14 ?side15 ?side16 ?side17 ?side18 ?side19 ?side20 ?side21 ?side22 ?side23 ?side24 ?side25 ?side26 ?side27 ?side28 ?side29 ?side30 ?side31 ?side32 ?side33 ?side34 A7.out).mono ?_
      (case side1 => exact s_D HR452_9.out HB.out)
      (case side2 => exact HC452_9.out)
      (case side3 => exact s_D HR452_10.out HB.out)
      (case side4 => exact HC452_10.out)
      (case side5 => exact s_D HR452_11.out HB.out)
      (case side6 => exact HC452_11.out)
      (case side7 => exact s_D HR452_12.out HB.out)
      (case side8 => exact HC452_12.out)
      (case side9 => exact s_D HR452_13.out HB.out)
      (case side10 => exact HC452_13.out)
      (case side11 => exact s_D HR452_16.out HB.out)
      (case side12 => exact HC452_16.out)
      (case side13 => exact s_D HR1_9.out HB.out)
      (case side14 => exact HC1_9.out)
      (case side15 => exact s_D HR1_10.out HB.out)
      (case side16 => exact HC1_10.out)
      (case side17 => exact s_D HR1_11.out HB.out)
      (case side18 => exact HC1_11.out)
      (case side19 => exact s_D HR1_12.out HB.out)
      (case side20 => exact HC1_12.out)
      (case side21 => exact s_D HR1_17.out HB.out)
      (case side22 => exact HC1_17.out)
      (case side23 => exact s_D HR1_18.out HB.out)
      (case side24 => exact HC1_18.out)
      (case side25 => exact s_D HR1_19.out HB.out)
      (case side26 => exact HC1_19.out)
      (case side27 => exact s_D HR1_20.out HB.out)
      (case side28 => exact HC1_20.out)
      (case side29 => exact s_D HR1_21.out HB.out)
      (case side30 => exact HC1_21.out)
      (case side31 => exact s_D HR1_22.out HB.out)
      (case side32 => exact HC1_22.out)
      (case side33 => exact s_D HR1_28.out HB.out)
      (case side34 => exact HC1_28.out)
      rintro e w10 ⟨rfl, hb⟩
      refine ⟨_, rfl, ?_⟩
      replace BK451 := s_a (blk_below (s_k BK451.out) hb)
      replace HB := s_a (below_step (by exact s_b HB.out) hb)
      (try clear hb)
      refine hK.out _ _ ⟨s_x BK451.out 0, s_x BK451.out 1, s_x BK451.out 2, s_x BK451.out 3, s_x BK451.out 4, s_x BK451.out 5, s_x BK451.out 6, s_x BK451.out 7, s_x BK451.out 8, s_x BK451.out 9, s_x BK451.out 10, s_x BK451.out 11, s_x BK451.out 12, s_x BK451.out 13, s_x BK451.out 14, s_x BK451.out 15, s_x BK451.out 16, s_x BK451.out 17, s_x BK451.out 18, s_x BK451.out 19, s_x BK451.out 20, s_x BK451.out 21, s_x BK451.out 22, s_x BK451.out 23, s_x BK451.out 24, s_x BK451.out 25, s_x BK451.out 26, s_x BK451.out 27, s_x BK451.out 28, s_x BK451.out 29, s_x BK451.out 30, s_x BK451.out 31, (s_m HB.out hw452_0), (s_m HB.out hw452_1), (s_m HB.out hw452_2), (s_m HB.out hw452_3), (s_m HB.out hw452_4), (s_m HB.out hw452_5), (s_m HB.out hw452_6), (s_m HB.out hw452_7), (s_m HB.out hw452_8), (s_m HB.out hw452_9), (s_m HB.out hw452_10), (s_m HB.out hw452_11), (s_m HB.out hw452_12), (s_m HB.out hw452_13), (s_m HB.out hw452_14), (s_m HB.out hw452_15), (s_m HB.out hw452_16)⟩ (fun hHeld => ?_)
      clear hK K
      refine norm_ (a' := ?_) ?_ ?_
      rotate_left
      ·show Act.put _ (some 20) _ = _
       simp only [Act.put, List.setIfInBounds_toArray, List.set_cons_zero, List.set_cons_succ, i64_w, i32_w]
       rfl
      refine done_ (by kernel_rfl) ?_
      try go_wp2
      go_ret
      exact ⟨by first | rfl | (simp [errW_none, errW_some] <;> rfl) | (simp [*, errW_none, errW_some] <;> rfl), by exact s_b HB.out⟩
     ·replace c8 := Bool.eq_false_iff.mpr c8
      subst c8
      (try rw [if_neg (show ¬ (false = true) by decide)] at H)
      have H' := s_a H
      clear H
      try go_wp2
      replace BK451 := s_a (blk_drew BK451.out)
      replace HB := s_a (below_drew1 HB.out)
      have p452 : 0 ≤ (x7_1 : Int) := of_decide_eq_true (by first | (with_reducible assumption) | assumption)
      have q452 : x7_1 < (l0.length : Int) := of_decide_eq_true (by first | (with_reducible assumption) | assumption)
      obtain ⟨ad452, A452_9, c452_9, A452_10, c452_10, A452_11, c452_11, A452_12, c452_12, A452_13, c452_13, A452_16, c452_16, e452, hx452_0, hx452_1, hx452_2, hx452_3, hx452_4, hx452_5, hx452_6, hx452_7, hx452_8, hx452_9, hx452_10, hx452_11, hx452_12, hx452_13, hx452_14, hx452_15, hx452_16, hl452_9, hi452_9, hl452_10, hi452_10, hl452_11, hi452_11, hl452_12, hi452_12, hl452_13, hi452_13, hl452_16, hi452_16⟩ := at_T54 HR0.out x7_1 p452 q452
      have hw452_16 := hx452_16
      have hw452_15 := hx452_15
      have hw452_14 := hx452_14
      have hw452_13 := hx452_13
      have hw452_12 := hx452_12
      have hw452_11 := hx452_11
      have hw452_10 := hx452_10
      have hw452_9 := hx452_9
      have hw452_8 := hx452_8
      have hw452_7 := hx452_7
      have hw452_6 := hx452_6
      have hw452_5 := hx452_5
      have hw452_4 := hx452_4
      have hw452_3 := hx452_3
      have hw452_2 := hx452_2
      have hw452_1 := hx452_1
      have hw452_0 := hx452_0
      cases e452
      replace hx452_0 := s_m HB.out hx452_0
      replace hx452_1 := s_m HB.out hx452_1
      replace hx452_2 := s_m HB.out hx452_2
      replace hx452_3 := s_m HB.out hx452_3
      replace hx452_4 := s_m HB.out hx452_4
      replace hx452_5 := s_m HB.out hx452_5
      replace hx452_6 := s_m HB.out hx452_6
      replace hx452_7 := s_m HB.out hx452_7
      replace hx452_8 := s_m HB.out hx452_8
      replace hx452_9 := s_m HB.out hx452_9
      replace hx452_10 := s_m HB.out hx452_10
      replace hx452_11 := s_m HB.out hx452_11
      replace hx452_12 := s_m HB.out hx452_12
      replace hx452_13 := s_m HB.out hx452_13
      replace hx452_14 := s_m HB.out hx452_14
      replace hx452_15 := s_m HB.out hx452_15
      replace hx452_16 := s_m HB.out hx452_16
      have HR452_9 := s_a hi452_9
      have HC452_9 := s_a hl452_9
      clear hi452_9 hl452_9
      have HR452_10 := s_a hi452_10
      have HC452_10 := s_a hl452_10
      clear hi452_10 hl452_10
      have HR452_11 := s_a hi452_11
      have HC452_11 := s_a hl452_11
      clear hi452_11 hl452_11
      have HR452_12 := s_a hi452_12
      have HC452_12 := s_a hl452_12
      clear hi452_12 hl452_12
      have HR452_13 := s_a hi452_13
      have HC452_13 := s_a hl452_13
      clear hi452_13 hl452_13
      have HR452_16 := s_a hi452_16
      have HC452_16 := s_a hl452_16
      clear hi452_16 hl452_16
      replace p452 := eq_true p452
      replace q452 := eq_true q452
      refine start_ (n := 7) (S := fun w' => w'.cell? ⟨gb451, 0, none⟩ = some (.string a1_0) ∧ w'.cell? ⟨gb451, 1, none⟩ = some (.string a1_1) ∧ w'.cell? ⟨gb451, 2, none⟩ = some (.string a1_2) ∧ w'.cell? ⟨gb451, 3, none⟩ = some (.int .i64 a1_3) ∧ w'.cell? ⟨gb451, 4, none⟩ = some (.int .i64 a1_4) ∧ w'.cell? ⟨gb451, 5, none⟩ = some (.int .i64 a1_5) ∧ w'.cell? ⟨gb451, 6, none⟩ = some (.int .i64 a1_6) ∧ w'.cell? ⟨gb451, 7, none⟩ = some (.bool a1_7) ∧ w'.cell? ⟨gb451, 8, none⟩ = some (.int .i64 a1_8) ∧ w'.cell? ⟨gb451, 9, none⟩ = some (.slice A1_9 l1_9.length c1_9) ∧ w'.cell? ⟨gb451, 10, none⟩ = some (.slice A1_10 l1_10.length c1_10) ∧ w'.cell? ⟨gb451, 11, none⟩ = some (.slice A1_11 l1_11.length c1_11) ∧ w'.cell? ⟨gb451, 12, none⟩ = some (.slice A1_12 l1_12.length c1_12) ∧ w'.cell? ⟨gb451, 13, none⟩ = some (.string a1_13) ∧ w'.cell? ⟨gb451, 14, none⟩ = some (.int .i64 a1_14) ∧ w'.cell? ⟨gb451, 15, none⟩ = some (.int .i64 a1_15) ∧ w'.cell? ⟨gb451, 16, none⟩ = some (.int .i64 a1_16) ∧ w'.cell? ⟨gb451, 17, none⟩ = some (.slice A1_17 l1_17.length c1_17) ∧ w'.cell? ⟨gb451, 18, none⟩ = some (.slice A1_18 l1_18.length c1_18) ∧ w'.cell? ⟨gb451, 19, none⟩ = some (.slice A1_19 l1_19.length c1_19) ∧ w'.cell? ⟨gb451, 20, none⟩ = some (.slice A1_20 l1_20.length c1_20) ∧ w'.cell? ⟨gb451, 21, none⟩ = some (.slice A1_21 l1_21.length c1_21) ∧ w'.cell? ⟨gb451, 22, none⟩ = some (.slice A1_22 l1_22.length c1_22) ∧ w'.cell? ⟨gb451, 23, none⟩ = some (.int .i64 a1_23) ∧ w'.cell? ⟨gb451, 24, none⟩ = some (.bool a1_24) ∧ w'.cell? ⟨gb451, 25, none⟩ = some (.int .i64 a1_25) ∧ w'.cell? ⟨gb451, 26, none⟩ = some (.int .i64 a1_26) ∧ w'.cell? ⟨gb451, 27, none⟩ = some (.int .i64 a1_27) ∧ w'.cell? ⟨gb451, 28, none⟩ = some (.slice A1_28 l1_28.length c1_28) ∧ w'.cell? ⟨gb451, 29, none⟩ = some (.int .i64 a1_29) ∧ w'.cell? ⟨gb451, 30, none⟩ = some (.string a1_30) ∧ w'.cell? ⟨gb451, 31, none⟩ = some (.string a1_31) ∧ w'.cell? (ad452.add ((x7_1).toNat * 17)) = some (.string ((rd_T54 l0 x7_1).f0.f0)) ∧ w'.cell? ⟨(ad452.add ((x7_1).toNat * 17)).block, (ad452.add ((x7_1).toNat * 17)).off + 1, none⟩ = some (.string ((rd_T54 l0 x7_1).f0.f1)) ∧ w'.cell? ⟨(ad452.add ((x7_1).toNat * 17)).block, (ad452.add ((x7_1).toNat * 17)).off + 2, none⟩ = some (.string ((rd_T54 l0 x7_1).f0.f2)) ∧ w'.cell? ⟨(ad452.add ((x7_1).toNat * 17)).block, (ad452.add ((x7_1).toNat * 17)).off + 3, none⟩ = some (.int .i64 ((rd_T54 l0 x7_1).f0.f3)) ∧ w'.cell? ⟨(ad452.add ((x7_1).toNat * 17)).block, (ad452.add ((x7_1).toNat * 17)).off + 4, none⟩ = some (.int .i64 ((rd_T54 l0 x7_1).f0.f4)) ∧ w'.cell? ⟨(ad452.add ((x7_1).toNat * 17)).block, (ad452.add ((x7_1).toNat * 17)).off + 5, none⟩ = some (.int .i64 ((rd_T54 l0 x7_1).f0.f5)) ∧ w'.cell? ⟨(ad452.add ((x7_1).toNat * 17)).block, (ad452.add ((x7_1).toNat * 17)).off + 6, none⟩ = some (.int .i64 ((rd_T54 l0 x7_1).f0.f6)) ∧ w'.cell? ⟨(ad452.add ((x7_1).toNat * 17)).block, (ad452.add ((x7_1).toNat * 17)).off + 7, none⟩ = some (.bool ((rd_T54 l0 x7_1).f0.f7)) ∧ w'.cell? ⟨(ad452.add ((x7_1).toNat * 17)).block, (ad452.add ((x7_1).toNat * 17)).off + 8, none⟩ = some (.int .i64 ((rd_T54 l0 x7_1).f0.f8)) ∧ w'.cell? ⟨(ad452.add ((x7_1).toNat * 17)).block, (ad452.add ((x7_1).toNat * 17)).off + 9, none⟩ = some (.slice A452_9 ((rd_T54 l0 x7_1).f0.f9).length c452_9) ∧ w'.cell? ⟨(ad452.add ((x7_1).toNat * 17)).block, (ad452.add ((x7_1).toNat * 17)).off + 10, none⟩ = some (.slice A452_10 ((rd_T54 l0 x7_1).f0.f10).length c452_10) ∧ w'.cell? ⟨(ad452.add ((x7_1).toNat * 17)).block, (ad452.add ((x7_1).toNat * 17)).off + 11, none⟩ = some (.slice A452_11 ((rd_T54 l0 x7_1).f0.f11).length c452_11) ∧ w'.cell? ⟨(ad452.add ((x7_1).toNat * 17)).block, (ad452.add ((x7_1).toNat * 17)).off + 12, none⟩ = some (.slice A452_12 ((rd_T54 l0 x7_1).f0.f12).length c452_12) ∧ w'.cell? ⟨(ad452.add ((x7_1).toNat * 17)).block, (ad452.add ((x7_1).toNat * 17)).off + 13, none⟩ = some (.slice A452_13 ((rd_T54 l0 x7_1).f1).length c452_13) ∧ w'.cell? ⟨(ad452.add ((x7_1).toNat * 17)).block, (ad452.add ((x7_1).toNat * 17)).off + 14, none⟩ = some (.bool ((rd_T54 l0 x7_1).f2)) ∧ w'.cell? ⟨(ad452.add ((x7_1).toNat * 17)).block, (ad452.add ((x7_1).toNat * 17)).off + 15, none⟩ = some (.bool ((rd_T54 l0 x7_1).f3)) ∧ w'.cell? ⟨(ad452.add ((x7_1).toNat * 17)).block, (ad452.add ((x7_1).toNat * 17)).off + 16, none⟩ = some (.slice A452_16 ((rd_T54 l0 x7_1).f4).length c452_16)) (ds := []) (bz 7 0) (by kernel_rfl) rfl rfl ⟨s_x BK451.out 0, s_x BK451.out 1, s_x BK451.out 2, s_x BK451.out 3, s_x BK451.out 4, s_x BK451.out 5, s_x BK451.out 6, s_x BK451.out 7, s_x BK451.out 8, s_x BK451.out 9, s_x BK451.out 10, s_x BK451.out 11, s_x BK451.out 12, s_x BK451.out 13, s_x BK451.out 14, s_x BK451.out 15, s_x BK451.out 16, s_x BK451.out 17, s_x BK451.out 18, s_x BK451.out 19, s_x BK451.out 20, s_x BK451.out 21, s_x BK451.out 22, s_x BK451.out 23, s_x BK451.out 24, s_x BK451.out 25, s_x BK451.out 26, s_x BK451.out 27, s_x BK451.out 28, s_x BK451.out 29, s_x BK451.out 30, s_x BK451.out 31, (s_m HB.out hw452_0), (s_m HB.out hw452_1), (s_m HB.out hw452_2), (s_m HB.out hw452_3), (s_m HB.out hw452_4), (s_m HB.out hw452_5), (s_m HB.out hw452_6), (s_m HB.out hw452_7), (s_m HB.out hw452_8), (s_m HB.out hw452_9), (s_m HB.out hw452_10), (s_m HB.out hw452_11), (s_m HB.out hw452_12), (s_m HB.out hw452_13), (s_m HB.out hw452_14), (s_m HB.out hw452_15), (s_m HB.out hw452_16)⟩ (fun hHeld => ?_)
      generalize wr.drew = w11 at BK451 HB HR452_10 HR452_11 HR452_12 HR452_13 HR452_16 HR452_9 hx452_0 hx452_1 hx452_10 hx452_11 hx452_12 hx452_13 hx452_14 hx452_15 hx452_16 hx452_2 hx452_3 hx452_4 hx452_5 hx452_6 hx452_7 hx452_8 hx452_9 hHeld ⊢
      refine q_p 0 (some 14) (bz 7 1) (by kernel_rfl) (v := ?_) ?_ (a' := ?_) ?_ ?_; rotate_left 2
      ·intro w'; go_simp; with_reducible rfl
      ·simp only [Act.put, List.setIfInBounds_toArray, List.set_cons_zero, List.set_cons_succ, i64_w, i32_w]; rfl
      refine q_p 1 (some 15) (bz 7 3) (by kernel_rfl) (v := ?_) ?_ (a' := ?_) ?_ ?_; rotate_left 2
      ·intro w'; go_simp; with_reducible rfl
      ·simp only [Act.put, List.setIfInBounds_toArray, List.set_cons_zero, List.set_cons_succ, i64_w, i32_w]; rfl
      refine q_p 2 (some 16) (bz 7 7) (by kernel_rfl) (v := ?_) ?_ (a' := ?_) ?_ ?_; rotate_left 2
      ·intro w'; go_simp; with_reducible rfl
      ·simp only [Act.put, List.setIfInBounds_toArray, List.set_cons_zero, List.set_cons_succ, i64_w, i32_w]; rfl
      refine q_p 5 (some 19) (bz 7 39) (by kernel_rfl) (v := ?_) ?_ (a' := ?_) ?_ ?_; rotate_left 2
      ·intro w'; go_simp; with_reducible rfl
      ·simp only [Act.put, List.setIfInBounds_toArray, List.set_cons_zero, List.set_cons_succ, i64_w, i32_w]; rfl
      refine q_t 3 (some 17) (bz 7 47) (by kernel_rfl) hHeld (v := ?_) ?_ (a' := ?_) ?_ ?_; rotate_left 2
      ·rintro w' ⟨s0, s1, s2, s3, s4, s5, s6, s7, s8, s9, s10, s11, s12, s13, s14, s15, s16, s17, s18, s19, s20, s21, s22, s23, s24, s25, s26, s27, s28, s29, s30, s31, s32, s33, s34, s35, s36, s37, s38, s39, s40, s41, s42, s43, s44, s45, s46, s47, s48⟩; (refine (s_ld rfl 54 (.tmp 16) ?_ _ ?_ _ _ (cells_at s32 (s_cc s33 (s_cc s34 (s_cc s35 (s_cc s36 (s_cc s37 (s_cc s38 (s_cc s39 (s_cc s40 (s_cc s41 (s_cc s42 (s_cc s43 (s_cc s44 (s_cc s45 (s_cc s46 (s_cc s47 (s_cc s48 s_cn))))))))))))))))) Try.underlying54 (by rfl) sz54).trans ?_ <;> first | (with_reducible rfl) | rfl)
      ·simp only [Act.put, List.setIfInBounds_toArray, List.set_cons_zero, List.set_cons_succ, i64_w, i32_w]; rfl
      refine q_t 4 (some 18) (bz 7 63) (by kernel_rfl) hHeld (v := ?_) ?_ (a' := ?_) ?_ ?_; rotate_left 2
      ·rintro w' ⟨s0, s1, s2, s3, s4, s5, s6, s7, s8, s9, s10, s11, s12, s13, s14, s15, s16, s17, s18, s19, s20, s21, s22, s23, s24, s25, s26, s27, s28, s29, s30, s31, s32, s33, s34, s35, s36, s37, s38, s39, s40, s41, s42, s43, s44, s45, s46, s47, s48⟩; (refine (s_ld rfl 41 (.tmp 4) ?_ _ ?_ _ _ (cells_at s0 (s_cc s1 (s_cc s2 (s_cc s3 (s_cc s4 (s_cc s5 (s_cc s6 (s_cc s7 (s_cc s8 (s_cc s9 (s_cc s10 (s_cc s11 (s_cc s12 (s_cc s13 (s_cc s14 (s_cc s15 (s_cc s16 (s_cc s17 (s_cc s18 (s_cc s19 (s_cc s20 (s_cc s21 (s_cc s22 (s_cc s23 (s_cc s24 (s_cc s25 (s_cc s26 (s_cc s27 (s_cc s28 (s_cc s29 (s_cc s30 (s_cc s31 s_cn)))))))))))))))))))))))))))))))) Try.underlying41 (by rfl) sz41).trans ?_ <;> first | (with_reducible rfl) | rfl)
      ·simp only [Act.put, List.setIfInBounds_toArray, List.set_cons_zero, List.set_cons_succ, i64_w, i32_w]; rfl
      refine one_ (i := 6) (N := some 20) (bz 7 127) rfl rfl (by kernel_rfl) (by decide) (fun K hK => ?_)
      refine goes_ Try.func21 (by kernel_rfl) rfl #[.agg #[.string ((rd_T54 l0 x7_1).f0.f0), .string ((rd_T54 l0 x7_1).f0.f1), .string ((rd_T54 l0 x7_1).f0.f2), .int .i64 ((rd_T54 l0 x7_1).f0.f3), .int .i64 ((rd_T54 l0 x7_1).f0.f4), .int .i64 ((rd_T54 l0 x7_1).f0.f5), .int .i64 ((rd_T54 l0 x7_1).f0.f6), .bool ((rd_T54 l0 x7_1).f0.f7), .int .i64 ((rd_T54 l0 x7_1).f0.f8), .slice A452_9 ((rd_T54 l0 x7_1).f0.f9).length c452_9, .slice A452_10 ((rd_T54 l0 x7_1).f0.f10).length c452_10, .slice A452_11 ((rd_T54 l0 x7_1).f0.f11).length c452_11, .slice A452_12 ((rd_T54 l0 x7_1).f0.f12).length c452_12, .slice A452_13 ((rd_T54 l0 x7_1).f1).length c452_13, .bool ((rd_T54 l0 x7_1).f2), .bool ((rd_T54 l0 x7_1).f3), .slice A452_16 ((rd_T54 l0 x7_1).f4).length c452_16], .agg #[.string a1_0, .string a1_1, .string a1_2, .int .i64 a1_3, .int .i64 a1_4, .int .i64 a1_5, .int .i64 a1_6, .bool a1_7, .int .i64 a1_8, .slice A1_9 l1_9.length c1_9, .slice A1_10 l1_10.length c1_10, .slice A1_11 l1_11.length c1_11, .slice A1_12 l1_12.length c1_12, .string a1_13, .int .i64 a1_14, .int .i64 a1_15, .int .i64 a1_16, .slice A1_17 l1_17.length c1_17, .slice A1_18 l1_18.length c1_18, .slice A1_19 l1_19.length c1_19, .slice A1_20 l1_20.length c1_20, .slice A1_21 l1_21.length c1_21, .slice A1_22 l1_22.length c1_22, .int .i64 a1_23, .bool a1_24, .int .i64 a1_25, .int .i64 a1_26, .int .i64 a1_27, .slice A1_28 l1_28.length c1_28, .int .i64 a1_29, .string a1_30, .string a1_31], .bool a2] (by rfl) rfl rfl (by (try simp only [List.map_toArray, List.map_cons, List.map_nil]); first | done | rfl | (simp only [List.length_drop, List.length_take]; rfl)) ?_
      with_reducible refine (orchestratorref57_isolates.calls k1 _ _ _ _ _ _ _ _ _ _ _ _ _ _ _ _ _ _ _ _ _ _ _ _ _ _ _ _ _ _ _ _ _ _ _ _ _ _ _ _ _ _ _ _ _ _ _ _ _ _ _ _ _ _ _ _ _ _ _ _ _ _ _ _ _ _ _ _ _ _ _ _ _ _ _ _ _ _ _ _ _ _ _ _ _ _ ?side1 ?side2 ?side3 ?side4 ?side5 ?side6 ?side7 ?side8 ?side9 ?side10 ?side11 ?side12 ?side13 ?side14 ?side15 ?side16 ?side17 ?side18 ?side19 ?side20 ?side21 ?side22 ?side23 ?side24 ?side25 ?side26 ?side27 ?side28 ?side29 ?side30 ?side31 ?side32 ?side33 ?side34 A7.out).mono ?_
      (case side1 => exact s_D HR452_9.out HB.out)
      (case side2 => exact HC452_9.out)
      (case side3 => exact s_D HR452_10.out HB.out)
      (case side4 => exact HC452_10.out)
      (case side5 => exact s_D HR452_11.out HB.out)
      (case side6 => exact HC452_11.out)
      (case side7 => exact s_D HR452_12.out HB.out)
      (case side8 => exact HC452_12.out)
      (case side9 => exact s_D HR452_13.out HB.out)
      (case side10 => exact HC452_13.out)
      (case side11 => exact s_D HR452_16.out HB.out)
      (case side12 => exact HC452_16.out)
      (case side13 => exact s_D HR1_9.out HB.out)
      (case side14 => exact HC1_9.out)
      (case side15 => exact s_D HR1_10.out HB.out)
      (case side16 => exact HC1_10.out)
      (case side17 => exact s_D HR1_11.out HB.out)
      (case side18 => exact HC1_11.out)
      (case side19 => exact s_D HR1_12.out HB.out)
      (case side20 => exact HC1_12.out)
      (case side21 => exact s_D HR1_17.out HB.out)
      (case side22 => exact HC1_17.out)
      (case side23 => exact s_D HR1_18.out HB.out)
      (case side24 => exact HC1_18.out)
      (case side25 => exact s_D HR1_19.out HB.out)
      (case side26 => exact HC1_19.out)
      (case side27 => exact s_D HR1_20.out HB.out)
      (case side28 => exact HC1_20.out)
      (case side29 => exact s_D HR1_21.out HB.out)
      (case side30 => exact HC1_21.out)
      (case side31 => exact s_D HR1_22.out HB.out)
      (case side32 => exact HC1_22.out)
      (case side33 => exact s_D HR1_28.out HB.out)
      (case side34 => exact HC1_28.out)
      rintro e w12 ⟨rfl, hb⟩
      refine ⟨_, rfl, ?_⟩
      replace BK451 := s_a (blk_below (s_k BK451.out) hb)
      replace HB := s_a (below_step (by exact s_b HB.out) hb)
      (try clear hb)
      refine hK.out _ _ ⟨s_x BK451.out 0, s_x BK451.out 1, s_x BK451.out 2, s_x BK451.out 3, s_x BK451.out 4, s_x BK451.out 5, s_x BK451.out 6, s_x BK451.out 7, s_x BK451.out 8, s_x BK451.out 9, s_x BK451.out 10, s_x BK451.out 11, s_x BK451.out 12, s_x BK451.out 13, s_x BK451.out 14, s_x BK451.out 15, s_x BK451.out 16, s_x BK451.out 17, s_x BK451.out 18, s_x BK451.out 19, s_x BK451.out 20, s_x BK451.out 21, s_x BK451.out 22, s_x BK451.out 23, s_x BK451.out 24, s_x BK451.out 25, s_x BK451.out 26, s_x BK451.out 27, s_x BK451.out 28, s_x BK451.out 29, s_x BK451.out 30, s_x BK451.out 31, (s_m HB.out hw452_0), (s_m HB.out hw452_1), (s_m HB.out hw452_2), (s_m HB.out hw452_3), (s_m HB.out hw452_4), (s_m HB.out hw452_5), (s_m HB.out hw452_6), (s_m HB.out hw452_7), (s_m HB.out hw452_8), (s_m HB.out hw452_9), (s_m HB.out hw452_10), (s_m HB.out hw452_11), (s_m HB.out hw452_12), (s_m HB.out hw452_13), (s_m HB.out hw452_14), (s_m HB.out hw452_15), (s_m HB.out hw452_16)⟩ (fun hHeld => ?_)
      clear hK K
      refine norm_ (a' := ?_) ?_ ?_
      rotate_left
      ·show Act.put _ (some 20) _ = _
       simp only [Act.put, List.setIfInBounds_toArray, List.set_cons_zero, List.set_cons_succ, i64_w, i32_w]
       rfl
      refine done_ (by kernel_rfl) ?_
      try go_wp2
      go_roundg k1
      case measure => have := HK1.out; omega
      case rel => exact ⟨(wrap64 (x7_1 + 1)), (by first | rfl | (simp; done) | (simp [*]; done)), H', ⟨by have := HK1.out; omega⟩, ⟨by exact s_k BK451.out⟩, ⟨by exact s_b HB.out⟩⟩
    ·rw [if_neg c6] at H
     exact absurd H (by simp)
   ·rw [if_neg c5] at H
    have c5b0 : decide (x7_1 < (l0.length : Int)) = false := decide_eq_false c5
    clear c5
    obtain rfl := Option.some.inj H
    go_wp2
    go_ret
    exact ⟨by first | rfl | (simp [errW_none, errW_some] <;> rfl) | (simp [*, errW_none, errW_some] <;> rfl), by exact s_b HB.out⟩
def orchestratorref13_Key.f (a0 : ByteArray) (a1 : ByteArray) (a2 : ByteArray) : Option (ByteArray) := if a0.size + 1 ≤ 9223372036854775807 then (if a0.size + 1 + a1.size ≤ 9223372036854775807 then (if a0.size + 1 + a1.size + 1 ≤ 9223372036854775807 then (if a0.size + 1 + a1.size + 1 + a2.size ≤ 9223372036854775807 then (some ((((a0 ++ (⟨#[47]⟩ : ByteArray)) ++ a1) ++ (⟨#[47]⟩ : ByteArray)) ++ a2)) else (none)) else (none)) else (none)) else (none)
set_option maxHeartbeats 8000000 in
set_option maxRecDepth 100000 in
theorem orchestratorref13_Key.calls (a0 : ByteArray) (a1 : ByteArray) (a2 : ByteArray) (r : ByteArray) (w : World) (h : orchestratorref13_Key.f a0 a1 a2 = some r) :
  Calls Try.prog 34 #[.string a0, .string a1, .string a2] w fun e w' => e = .returned (.string r) ∧ Drawn0 w w' := by
 have H := h; unfold orchestratorref13_Key.f at H
 clear h
 by_cases c4 : a0.size + 1 ≤ 9223372036854775807
 ·rw [if_pos c4] at H
  have c4b0 := eq_true c4
  have c4b1 : decide (a0.size + 1 ≤ 9223372036854775807) = true := decide_eq_true c4
  try have c4b2 : (9223372036854775807 < a0.size + 1) = False := eq_false (Nat.not_lt.2 c4)
  by_cases c5 : a0.size + 1 + a1.size ≤ 9223372036854775807
  ·rw [if_pos c5] at H
   have c5b0 := eq_true c5
   have c5b1 : decide (a0.size + 1 + a1.size ≤ 9223372036854775807) = true := decide_eq_true c5
   try have c5b2 : (9223372036854775807 < a0.size + 1 + a1.size) = False := eq_false (Nat.not_lt.2 c5)
   by_cases c6 : a0.size + 1 + a1.size + 1 ≤ 9223372036854775807
   ·rw [if_pos c6] at H
    have c6b0 := eq_true c6
    have c6b1 : decide (a0.size + 1 + a1.size + 1 ≤ 9223372036854775807) = true := decide_eq_true c6
    try have c6b2 : (9223372036854775807 < a0.size + 1 + a1.size + 1) = False := eq_false (Nat.not_lt.2 c6)
    by_cases c7 : a0.size + 1 + a1.size + 1 + a2.size ≤ 9223372036854775807
    ·rw [if_pos c7] at H
     have c7b0 := eq_true c7
     have c7b1 : decide (a0.size + 1 + a1.size + 1 + a2.size ≤ 9223372036854775807) = true := decide_eq_true c7
     try have c7b2 : (9223372036854775807 < a0.size + 1 + a1.size + 1 + a2.size) = False := eq_false (Nat.not_lt.2 c7)
     obtain rfl := Option.some.inj H
     go_enter Try.func34, Try.ntmps34
     go_wp2
     go_ret
     exact ⟨by first | rfl | (simp; done) | (simp [*]; done), by repeat (first | exact Drawn0.refl _ | apply Drawn0.step)⟩
    ·rw [if_neg c7] at H
     exact absurd H (by simp)
   ·rw [if_neg c6] at H
    exact absurd H (by simp)
  ·rw [if_neg c5] at H
   exact absurd H (by simp)
 ·rw [if_neg c4] at H
  exact absurd H (by simp)
def orchestratorref13_KeyOf.f (a0_0 : ByteArray) (a0_1 : ByteArray) (a0_2 : ByteArray) (a0_3 : Int) (a0_4 : Int) (a0_5 : Int) (a0_6 : Int) (a0_7 : Bool) (a0_8 : Int) (l0_9 : List (S72)) (l0_10 : List (S110)) (l0_11 : List ByteArray) (l0_12 : List (S112)) : Option (ByteArray) := (orchestratorref13_Key.f a0_0 a0_1 a0_2).bind fun t455 => (some t455)
set_option maxHeartbeats 8000000 in
set_option maxRecDepth 100000 in
theorem orchestratorref13_KeyOf.calls (a0_0 : ByteArray) (a0_1 : ByteArray) (a0_2 : ByteArray) (a0_3 : Int) (a0_4 : Int) (a0_5 : Int) (a0_6 : Int) (a0_7 : Bool) (a0_8 : Int) (A0_9 : Option Addr) (c0_9 : Nat) (l0_9 : List (S72)) (A0_10 : Option Addr) (c0_10 : Nat) (l0_10 : List (S110)) (A0_11 : Option Addr) (c0_11 : Nat) (l0_11 : List ByteArray) (A0_12 : Option Addr) (c0_12 : Nat) (l0_12 : List (S112)) (r : ByteArray) (w : World) (hr0_9 : Kd.C k72 w A0_9 l0_9.length l0_9) (hc0_9 : l0_9.length ≤ c0_9) (hr0_10 : Kd.C k110 w A0_10 l0_10.length l0_10) (hc0_10 : l0_10.length ≤ c0_10) (hr0_11 : Kd.C Kd.string w A0_11 l0_11.length l0_11) (hc0_11 : l0_11.length ≤ c0_11) (hr0_12 : Kd.C k112 w A0_12 l0_12.length l0_12) (hc0_12 : l0_12.length ≤ c0_12) (h : orchestratorref13_KeyOf.f a0_0 a0_1 a0_2 a0_3 a0_4 a0_5 a0_6 a0_7 a0_8 l0_9 l0_10 l0_11 l0_12 = some r) :
  Calls Try.prog 24 #[.agg #[.string a0_0, .string a0_1, .string a0_2, .int .i64 a0_3, .int .i64 a0_4, .int .i64 a0_5, .int .i64 a0_6, .bool a0_7, .int .i64 a0_8, .slice A0_9 l0_9.length c0_9, .slice A0_10 l0_10.length c0_10, .slice A0_11 l0_11.length c0_11, .slice A0_12 l0_12.length c0_12]] w fun e w' => e = .returned (.string r) ∧ Below w.heap.size w w' := by
 have hu28 := Try.underlying28
 have HR0_9 := s_a hr0_9
 have HC0_9 := s_a hc0_9
 clear hr0_9 hc0_9
 have HR0_10 := s_a hr0_10
 have HC0_10 := s_a hc0_10
 clear hr0_10 hc0_10
 have HR0_11 := s_a hr0_11
 have HC0_11 := s_a hc0_11
 clear hr0_11 hc0_11
 have HR0_12 := s_a hr0_12
 have HC0_12 := s_a hc0_12
 clear hr0_12 hc0_12
 have HB := s_a (Below.refl w.heap.size w)
 have H : ((orchestratorref13_Key.f a0_0 a0_1 a0_2).bind fun t455 => (some t455)) = some r := h
 clear h
 replace H := Option.bind_eq_some_iff.mp H
 obtain ⟨t455, A20, H⟩ := H
 replace H : (some t455) = some r := H
 have A2 := s_a A20
 clear A20
 obtain rfl := Option.some.inj H
 go_enter Try.func24, Try.ntmps24
 go_wp2_with (first | ((with_reducible refine gate_dst (N := 1) rfl ?_); refine box_event ?hg (N := 1) ?hd (cs := #[.string a0_0, .string a0_1, .string a0_2, .int .i64 a0_3, .int .i64 a0_4, .int .i64 a0_5, .int .i64 a0_6, .bool a0_7, .int .i64 a0_8, .slice A0_9 l0_9.length c0_9, .slice A0_10 l0_10.length c0_10, .slice A0_11 l0_11.length c0_11, .slice A0_12 l0_12.length c0_12]) (t := 28) ?hr ?_; (case hd => rfl); (case hg => rfl); (case hr => first | (go_simp; done) | (go_simp; rfl)); intro gb454 hg w3 hbox hb; have BK454 := s_a (hbox); have GW454 := s_a ((by rw [hg]; exact (below_size (by exact s_b HB.out)) : w.heap.size ≤ gb454)); have GE454 := s_a ((by rw [hg]; exact (below_size (by exact s_b HB.out)) : w.heap.size ≤ gb454)); replace HB := s_a (below_step (by exact s_b HB.out) hb); clear hb hbox hg; obtain ⟨hcz4_0, hcz4_1, hcz4_2, hcz4_3, hcz4_4, hcz4_5, hcz4_6, hcz4_7, hcz4_8, hcz4_9, hcz4_10, hcz4_11, hcz4_12⟩ := cells28 BK454.out) | ((with_reducible refine gate_callee (f := 34) rfl ?_); refine goesL_ (some 9) rfl rfl Try.func34 (by kernel_rfl) rfl #[.string a0_0, .string a0_1, .string a0_2] rfl (by (try simp only [List.map_toArray, List.map_cons, List.map_nil]); first | done | rfl | (simp only [List.length_drop, List.length_take]; rfl)) ?_; (with_reducible refine (orchestratorref13_Key.calls _ _ _ _ _ A2.out).mono ?_); rintro e w' ⟨rfl, ⟨nd, rfl⟩⟩; refine ⟨_, rfl, ?_⟩))
 go_ret
 exact ⟨by first | rfl | (simp [errW_none, errW_some] <;> rfl) | (simp [*, errW_none, errW_some] <;> rfl), by exact s_b HB.out⟩
end Go.Proofs.Ytkdikhonafbgdaa.Q
