/- Part of a claim: see its row. Conditions: stated at each. -/
import Derived.Test.YtkdikhonafbgdaaZMQ0
import Derived.Test.YtkdikhonafbgdaaZMQ2
namespace Go.Proofs.Ytkdikhonafbgdaa.Q
open Go.RowKit Go.Proofs.YtkdikhonafbgdaaW.PrintWords Go.Proofs.YtkdikhonafbgdaaW.PrintLast Go.Proofs.YtkdikhonafbgdaaW.PrintMore Go.Proofs.Ytkdikhonafbgdaa.Sh
attribute [local go_sem] max2_int min2_int max_two min_two max_three min_three max_four min_four
set_option linter.unusedVariables false
set_option linter.unusedSimpArgs false
def netpolicy_isolates.f (k : Nat) (a0_0 : ByteArray) (a0_1 : ByteArray) (a0_2 : ByteArray) (a0_3 : Int) (a0_4 : Int) (a0_5 : Int) (a0_6 : Int) (a0_7 : Bool) (a0_8 : Int) (l0_9 : List (S72)) (l0_10 : List (S110)) (l0_11 : List ByteArray) (l0_12 : List (S112)) (l0_13 : List (S74)) (a0_14 : Bool) (a0_15 : Bool) (l0_16 : List (S58)) (a1_0 : ByteArray) (a1_1 : ByteArray) (a1_2 : ByteArray) (a1_3 : Int) (a1_4 : Int) (a1_5 : Int) (a1_6 : Int) (a1_7 : Bool) (a1_8 : Int) (l1_9 : List (S72)) (l1_10 : List (S110)) (l1_11 : List ByteArray) (l1_12 : List (S112)) (a1_13 : ByteArray) (a1_14 : Int) (a1_15 : Int) (a1_16 : Int) (l1_17 : List (S117)) (l1_18 : List (S74)) (l1_19 : List (S119)) (l1_20 : List (S121)) (l1_21 : List (S123)) (l1_22 : List (S125)) (a1_23 : Int) (a1_24 : Bool) (a1_25 : Int) (a1_26 : Int) (a1_27 : Int) (l1_28 : List (S127)) (a1_29 : Int) (a1_30 : ByteArray) (a1_31 : ByteArray) (a2 : Bool) : Option (Bool) := if a2 = true then (if a0_15 = true then (if a0_1.toList = a1_1.toList then ((label_Matches.f k l0_13 l1_9).bind fun t116 => (some t116)) else (some false)) else (some false)) else (if a0_14 = true then (if a0_1.toList = a1_1.toList then ((label_Matches.f k l0_13 l1_9).bind fun t117 => (some t117)) else (some false)) else (some false))
theorem netpolicy_isolates.mono : ∀ a0 a1 a2 a3 a4 a5 a6 a7 a8 a9 a10 a11 a12 a13 a14 a15 a16 a17 a18 a19 a20 a21 a22 a23 a24 a25 a26 a27 a28 a29 a30 a31 a32 a33 a34 a35 a36 a37 a38 a39 a40 a41 a42 a43 a44 a45 a46 a47 a48 a49 k, LeO (netpolicy_isolates.f k a0 a1 a2 a3 a4 a5 a6 a7 a8 a9 a10 a11 a12 a13 a14 a15 a16 a17 a18 a19 a20 a21 a22 a23 a24 a25 a26 a27 a28 a29 a30 a31 a32 a33 a34 a35 a36 a37 a38 a39 a40 a41 a42 a43 a44 a45 a46 a47 a48 a49) (netpolicy_isolates.f (k + 1) a0 a1 a2 a3 a4 a5 a6 a7 a8 a9 a10 a11 a12 a13 a14 a15 a16 a17 a18 a19 a20 a21 a22 a23 a24 a25 a26 a27 a28 a29 a30 a31 a32 a33 a34 a35 a36 a37 a38 a39 a40 a41 a42 a43 a44 a45 a46 a47 a48 a49) := by
 intro a0 a1 a2 a3 a4 a5 a6 a7 a8 a9 a10 a11 a12 a13 a14 a15 a16 a17 a18 a19 a20 a21 a22 a23 a24 a25 a26 a27 a28 a29 a30 a31 a32 a33 a34 a35 a36 a37 a38 a39 a40 a41 a42 a43 a44 a45 a46 a47 a48 a49 k
 unfold netpolicy_isolates.f
 repeat' first
   | (with_reducible exact label_Matches.mono _ _ _)
   | (with_reducible exact LeO.refl _)
   | (with_reducible exact LeO.none _)
   | (with_reducible refine LeO.ite ?_ ?_)
   | (with_reducible refine LeO.bind ?_ (fun _ => ?_))
   | exact label_Matches.mono _ _ _
   | exact LeO.none _
   | refine LeO.ite ?_ ?_
   | refine LeO.bind ?_ (fun _ => ?_)
set_option maxHeartbeats 8000000 in
set_option maxRecDepth 100000 in
theorem netpolicy_isolates.calls (k : Nat) (a0_0 : ByteArray) (a0_1 : ByteArray) (a0_2 : ByteArray) (a0_3 : Int) (a0_4 : Int) (a0_5 : Int) (a0_6 : Int) (a0_7 : Bool) (a0_8 : Int) (A0_9 : Option Addr) (c0_9 : Nat) (l0_9 : List (S72)) (A0_10 : Option Addr) (c0_10 : Nat) (l0_10 : List (S110)) (A0_11 : Option Addr) (c0_11 : Nat) (l0_11 : List ByteArray) (A0_12 : Option Addr) (c0_12 : Nat) (l0_12 : List (S112)) (A0_13 : Option Addr) (c0_13 : Nat) (l0_13 : List (S74)) (a0_14 : Bool) (a0_15 : Bool) (A0_16 : Option Addr) (c0_16 : Nat) (l0_16 : List (S58)) (a1_0 : ByteArray) (a1_1 : ByteArray) (a1_2 : ByteArray) (a1_3 : Int) (a1_4 : Int) (a1_5 : Int) (a1_6 : Int) (a1_7 : Bool) (a1_8 : Int) (A1_9 : Option Addr) (c1_9 : Nat) (l1_9 : List (S72)) (A1_10 : Option Addr) (c1_10 : Nat) (l1_10 : List (S110)) (A1_11 : Option Addr) (c1_11 : Nat) (l1_11 : List ByteArray) (A1_12 : Option Addr) (c1_12 : Nat) (l1_12 : List (S112)) (a1_13 : ByteArray) (a1_14 : Int) (a1_15 : Int) (a1_16 : Int) (A1_17 : Option Addr) (c1_17 : Nat) (l1_17 : List (S117)) (A1_18 : Option Addr) (c1_18 : Nat) (l1_18 : List (S74)) (A1_19 : Option Addr) (c1_19 : Nat) (l1_19 : List (S119)) (A1_20 : Option Addr) (c1_20 : Nat) (l1_20 : List (S121)) (A1_21 : Option Addr) (c1_21 : Nat) (l1_21 : List (S123)) (A1_22 : Option Addr) (c1_22 : Nat) (l1_22 : List (S125)) (a1_23 : Int) (a1_24 : Bool) (a1_25 : Int) (a1_26 : Int) (a1_27 : Int) (A1_28 : Option Addr) (c1_28 : Nat) (l1_28 : List (S127)) (a1_29 : Int) (a1_30 : ByteArray) (a1_31 : ByteArray) (a2 : Bool) (r : Bool) (w : World) (hr0_9 : Kd.C k72 w A0_9 l0_9.length l0_9) (hc0_9 : l0_9.length ≤ c0_9) (hr0_10 : Kd.C k110 w A0_10 l0_10.length l0_10) (hc0_10 : l0_10.length ≤ c0_10) (hr0_11 : Kd.C Kd.string w A0_11 l0_11.length l0_11) (hc0_11 : l0_11.length ≤ c0_11) (hr0_12 : Kd.C k112 w A0_12 l0_12.length l0_12) (hc0_12 : l0_12.length ≤ c0_12) (hr0_13 : Kd.C k74 w A0_13 l0_13.length l0_13) (hc0_13 : l0_13.length ≤ c0_13) (hr0_16 : Kd.C k58 w A0_16 l0_16.length l0_16) (hc0_16 : l0_16.length ≤ c0_16) (hr1_9 : Kd.C k72 w A1_9 l1_9.length l1_9) (hc1_9 : l1_9.length ≤ c1_9) (hr1_10 : Kd.C k110 w A1_10 l1_10.length l1_10) (hc1_10 : l1_10.length ≤ c1_10) (hr1_11 : Kd.C Kd.string w A1_11 l1_11.length l1_11) (hc1_11 : l1_11.length ≤ c1_11) (hr1_12 : Kd.C k112 w A1_12 l1_12.length l1_12) (hc1_12 : l1_12.length ≤ c1_12) (hr1_17 : Kd.C k117 w A1_17 l1_17.length l1_17) (hc1_17 : l1_17.length ≤ c1_17) (hr1_18 : Kd.C k74 w A1_18 l1_18.length l1_18) (hc1_18 : l1_18.length ≤ c1_18) (hr1_19 : Kd.C k119 w A1_19 l1_19.length l1_19) (hc1_19 : l1_19.length ≤ c1_19) (hr1_20 : Kd.C k121 w A1_20 l1_20.length l1_20) (hc1_20 : l1_20.length ≤ c1_20) (hr1_21 : Kd.C k123 w A1_21 l1_21.length l1_21) (hc1_21 : l1_21.length ≤ c1_21) (hr1_22 : Kd.C k125 w A1_22 l1_22.length l1_22) (hc1_22 : l1_22.length ≤ c1_22) (hr1_28 : Kd.C k127 w A1_28 l1_28.length l1_28) (hc1_28 : l1_28.length ≤ c1_28) (h : netpolicy_isolates.f k a0_0 a0_1 a0_2 a0_3 a0_4 a0_5 a0_6 a0_7 a0_8 l0_9 l0_10 l0_11 l0_12 l0_13 a0_14 a0_15 l0_16 a1_0 a1_1 a1_2 a1_3 a1_4 a1_5 a1_6 a1_7 a1_8 l1_9 l1_10 l1_11 l1_12 a1_13 a1_14 a1_15 a1_16 l1_17 l1_18 l1_19 l1_20 l1_21 l1_22 a1_23 a1_24 a1_25 a1_26 a1_27 l1_28 a1_29 a1_30 a1_31 a2 = some r) :
  Calls Try.prog 20 #[.agg #[.string a0_0, .string a0_1, .string a0_2, .int .i64 a0_3, .int .i64 a0_4, .int .i64 a0_5, .int .i64 a0_6, .bool a0_7, .int .i64 a0_8, .slice A0_9 l0_9.length c0_9, .slice A0_10 l0_10.length c0_10, .slice A0_11 l0_11.length c0_11, .slice A0_12 l0_12.length c0_12, .slice A0_13 l0_13.length c0_13, .bool a0_14, .bool a0_15, .slice A0_16 l0_16.length c0_16], .agg #[.string a1_0, .string a1_1, .string a1_2, .int .i64 a1_3, .int .i64 a1_4, .int .i64 a1_5, .int .i64 a1_6, .bool a1_7, .int .i64 a1_8, .slice A1_9 l1_9.length c1_9, .slice A1_10 l1_10.length c1_10, .slice A1_11 l1_11.length c1_11, .slice A1_12 l1_12.length c1_12, .string a1_13, .int .i64 a1_14, .int .i64 a1_15, .int .i64 a1_16, .slice A1_17 l1_17.length c1_17, .slice A1_18 l1_18.length c1_18, .slice A1_19 l1_19.length c1_19, .slice A1_20 l1_20.length c1_20, .slice A1_21 l1_21.length c1_21, .slice A1_22 l1_22.length c1_22, .int .i64 a1_23, .bool a1_24, .int .i64 a1_25, .int .i64 a1_26, .int .i64 a1_27, .slice A1_28 l1_28.length c1_28, .int .i64 a1_29, .string a1_30, .string a1_31], .bool a2] w fun e w' => e = .returned (.bool r) ∧ Below w.heap.size w w' := by
 have hu54 := Try.underlying54
 have hu41 := Try.underlying41
 have HR0_9 := s_a hr0_9
 have HC0_9 := s_a hc0_9
 clear hr0_9 hc0_9
 have HR0_10 := s_a hr0_10
 have HC0_10 := s_a hc0_10
 clear hr0_10 hc0_10
 have HR0_11 := s_a hr0_11
 have HC0_11 := s_a hc0_11
 clear hr0_11 hc0_11
 have HR0_12 := s_a hr0_12
 have HC0_12 := s_a hc0_12
 clear hr0_12 hc0_12
 have HR0_13 := s_a hr0_13
 have HC0_13 := s_a hc0_13
 clear hr0_13 hc0_13
 have HR0_16 := s_a hr0_16
 have HC0_16 := s_a hc0_16
 clear hr0_16 hc0_16
 have HR1_9 := s_a hr1_9
 have HC1_9 := s_a hc1_9
 clear hr1_9 hc1_9
 have HR1_10 := s_a hr1_10
 have HC1_10 := s_a hc1_10
 clear hr1_10 hc1_10
 have HR1_11 := s_a hr1_11
 have HC1_11 := s_a hc1_11
 clear hr1_11 hc1_11
 have HR1_12 := s_a hr1_12
 have HC1_12 := s_a hc1_12
 clear hr1_12 hc1_12
 have HR1_17 := s_a hr1_17
 have HC1_17 := s_a hc1_17
 clear hr1_17 hc1_17
 have HR1_18 := s_a hr1_18
 have HC1_18 := s_a hc1_18
 clear hr1_18 hc1_18
 have HR1_19 := s_a hr1_19
 have HC1_19 := s_a hc1_19
 clear hr1_19 hc1_19
 have HR1_20 := s_a hr1_20
 have HC1_20 := s_a hc1_20
 clear hr1_20 hc1_20
 have HR1_21 := s_a hr1_21
 have HC1_21 := s_a hc1_21
 clear hr1_21 hc1_21
 have HR1_22 := s_a hr1_22
 have HC1_22 := s_a hc1_22
 clear hr1_22 hc1_22
 have HR1_28 := s_a hr1_28
 have HC1_28 := s_a hc1_28
 clear hr1_28 hc1_28
 have HB := s_a (Below.refl w.heap.size w)
 have H := h; unfold netpolicy_isolates.f at H
 clear h
 by_cases c4 : a2 = true
 ·subst c4
  (try rw [if_pos rfl] at H)
  by_cases c5 : a0_15 = true
  ·subst c5
   (try rw [if_pos rfl] at H)
   by_cases c6 : a0_1.toList = a1_1.toList
   ·rw [if_pos c6] at H
    have c6b0 : (a0_1.toList == a1_1.toList) = true := beq_iff_eq.mpr c6
    have c6b1 : (a0_1.toList != a1_1.toList) = false := bne_eq_false_iff_eq.mpr c6
    clear c6
    replace H := Option.bind_eq_some_iff.mp H
    obtain ⟨t116, A70, H⟩ := H
    replace H : (some t116) = some r := H
    have A7 := s_a A70
    clear A70
    obtain rfl := Option.some.inj H
    go_enter Try.func20, Try.ntmps20
    go_wp2_with (first | ((with_reducible refine gate_dst (N := 3) rfl ?_); refine box_event ?hg (N := 3) ?hd (cs := #[.string a0_0, .string a0_1, .string a0_2, .int .i64 a0_3, .int .i64 a0_4, .int .i64 a0_5, .int .i64 a0_6, .bool a0_7, .int .i64 a0_8, .slice A0_9 l0_9.length c0_9, .slice A0_10 l0_10.length c0_10, .slice A0_11 l0_11.length c0_11, .slice A0_12 l0_12.length c0_12, .slice A0_13 l0_13.length c0_13, .bool a0_14, .bool true, .slice A0_16 l0_16.length c0_16]) (t := 54) ?hr ?_; (case hd => rfl); (case hg => rfl); (case hr => first | (go_simp; done) | (go_simp; rfl)); intro gb114 hg w8 hbox hb; have BK114 := s_a (hbox); have GW114 := s_a ((by rw [hg]; exact (below_size (by exact s_b HB.out)) : w.heap.size ≤ gb114)); have GE114 := s_a ((by rw [hg]; exact (below_size (by exact s_b HB.out)) : w.heap.size ≤ gb114)); replace HB := s_a (below_step (by exact s_b HB.out) hb); clear hb hbox hg) | ((with_reducible refine gate_dst (N := 4) rfl ?_); refine box_event ?hg (N := 4) ?hd (cs := #[.string a1_0, .string a1_1, .string a1_2, .int .i64 a1_3, .int .i64 a1_4, .int .i64 a1_5, .int .i64 a1_6, .bool a1_7, .int .i64 a1_8, .slice A1_9 l1_9.length c1_9, .slice A1_10 l1_10.length c1_10, .slice A1_11 l1_11.length c1_11, .slice A1_12 l1_12.length c1_12, .string a1_13, .int .i64 a1_14, .int .i64 a1_15, .int .i64 a1_16, .slice A1_17 l1_17.length c1_17, .slice A1_18 l1_18.length c1_18, .slice A1_19 l1_19.length c1_19, .slice A1_20 l1_20.length c1_20, .slice A1_21 l1_21.length c1_21, .slice A1_22 l1_22.length c1_22, .int .i64 a1_23, .bool a1_24, .int .i64 a1_25, .int .i64 a1_26, .int .i64 a1_27, .slice A1_28 l1_28.length c1_28, .int .i64 a1_29, .string a1_30, .string a1_31]) (t := 41) ?hr ?_; (case hd => rfl); (case hg => rfl); (case hr => first | (go_simp; done) | (go_simp; rfl)); intro gb115 hg w9 hbox hb; have BK115 := s_a (hbox); have GW115 := s_a ((by rw [hg]; exact (below_size (by exact s_b HB.out)) : w.heap.size ≤ gb115)); have GE115 := s_a ((by rw [hg]; exact (below_size (by exact s_b HB.out)) : w.heap.size ≤ gb115)); have NB114_115 := s_a ((by rw [hg]; exact Nat.ne_of_lt (blk_lt (s_k BK114.out)) : gb114 ≠ gb115)); have NB115_114 := s_a ((by rw [hg]; exact Nat.ne_of_gt (blk_lt (s_k BK114.out)) : gb115 ≠ gb114)); replace BK114 := s_a (blk_below (s_k BK114.out) hb); replace HB := s_a (below_step (by exact s_b HB.out) hb); clear hb hbox hg; have hnb10 := NB114_115.out; have hnc10 := NB115_114.out; obtain ⟨hcz11_0, hcz11_1, hcz11_2, hcz11_3, hcz11_4, hcz11_5, hcz11_6, hcz11_7, hcz11_8, hcz11_9, hcz11_10, hcz11_11, hcz11_12, hcz11_13, hcz11_14, hcz11_15, hcz11_16⟩ := cells54 BK114.out; obtain ⟨hcz12_0, hcz12_1, hcz12_2, hcz12_3, hcz12_4, hcz12_5, hcz12_6, hcz12_7, hcz12_8, hcz12_9, hcz12_10, hcz12_11, hcz12_12, hcz12_13, hcz12_14, hcz12_15, hcz12_16, hcz12_17, hcz12_18, hcz12_19, hcz12_20, hcz12_21, hcz12_22, hcz12_23, hcz12_24, hcz12_25, hcz12_26, hcz12_27, hcz12_28, hcz12_29, hcz12_30, hcz12_31⟩ := cells41 BK115.out) | (go_at_call 27; (with_reducible refine (label_Matches.calls k _ _ _ _ _ _ _ _ ?side1 ?side2 ?side3 ?side4 A7.out).mono ?_); (case side1 => exact s_D HR0_13.out HB.out); (case side2 => exact HC0_13.out); (case side3 => exact s_D HR1_9.out HB.out); (case side4 => exact HC1_9.out); rintro e w13 ⟨rfl, hb⟩; (try clear A7); replace BK114 := s_a (blk_below (s_k BK114.out) hb); replace BK115 := s_a (blk_below (s_k BK115.out) hb); replace HB := s_a (below_step (by exact s_b HB.out) hb); (try clear hb)))
    go_ret
    exact ⟨by first | rfl | (simp [errW_none, errW_some] <;> rfl) | (simp [*, errW_none, errW_some] <;> rfl), by exact s_b HB.out⟩
   ·rw [if_neg c6] at H
    have c6b0 : (a0_1.toList == a1_1.toList) = false := beq_eq_false_iff_ne.mpr c6
    have c6b1 : (a0_1.toList != a1_1.toList) = true := bne_iff_ne.mpr c6
    obtain rfl := Option.some.inj H
    go_enter Try.func20, Try.ntmps20
    go_wp2_with (first | ((with_reducible refine gate_dst (N := 3) rfl ?_); refine box_event ?hg (N := 3) ?hd (cs := #[.string a0_0, .string a0_1, .string a0_2, .int .i64 a0_3, .int .i64 a0_4, .int .i64 a0_5, .int .i64 a0_6, .bool a0_7, .int .i64 a0_8, .slice A0_9 l0_9.length c0_9, .slice A0_10 l0_10.length c0_10, .slice A0_11 l0_11.length c0_11, .slice A0_12 l0_12.length c0_12, .slice A0_13 l0_13.length c0_13, .bool a0_14, .bool true, .slice A0_16 l0_16.length c0_16]) (t := 54) ?hr ?_; (case hd => rfl); (case hg => rfl); (case hr => first | (go_simp; done) | (go_simp; rfl)); intro gb114 hg w14 hbox hb; have BK114 := s_a (hbox); have GW114 := s_a ((by rw [hg]; exact (below_size (by exact s_b HB.out)) : w.heap.size ≤ gb114)); have GE114 := s_a ((by rw [hg]; exact (below_size (by exact s_b HB.out)) : w.heap.size ≤ gb114)); replace HB := s_a (below_step (by exact s_b HB.out) hb); clear hb hbox hg) | ((with_reducible refine gate_dst (N := 4) rfl ?_); refine box_event ?hg (N := 4) ?hd (cs := #[.string a1_0, .string a1_1, .string a1_2, .int .i64 a1_3, .int .i64 a1_4, .int .i64 a1_5, .int .i64 a1_6, .bool a1_7, .int .i64 a1_8, .slice A1_9 l1_9.length c1_9, .slice A1_10 l1_10.length c1_10, .slice A1_11 l1_11.length c1_11, .slice A1_12 l1_12.length c1_12, .string a1_13, .int .i64 a1_14, .int .i64 a1_15, .int .i64 a1_16, .slice A1_17 l1_17.length c1_17, .slice A1_18 l1_18.length c1_18, .slice A1_19 l1_19.length c1_19, .slice A1_20 l1_20.length c1_20, .slice A1_21 l1_21.length c1_21, .slice A1_22 l1_22.length c1_22, .int .i64 a1_23, .bool a1_24, .int .i64 a1_25, .int .i64 a1_26, .int .i64 a1_27, .slice A1_28 l1_28.length c1_28, .int .i64 a1_29, .string a1_30, .string a1_31]) (t := 41) ?hr ?_; (case hd => rfl); (case hg => rfl); (case hr => first | (go_simp; done) | (go_simp; rfl)); intro gb115 hg w15 hbox hb; have BK115 := s_a (hbox); have GW115 := s_a ((by rw [hg]; exact (below_size (by exact s_b HB.out)) : w.heap.size ≤ gb115)); have GE115 := s_a ((by rw [hg]; exact (below_size (by exact s_b HB.out)) : w.heap.size ≤ gb115)); have NB114_115 := s_a ((by rw [hg]; exact Nat.ne_of_lt (blk_lt (s_k BK114.out)) : gb114 ≠ gb115)); have NB115_114 := s_a ((by rw [hg]; exact Nat.ne_of_gt (blk_lt (s_k BK114.out)) : gb115 ≠ gb114)); replace BK114 := s_a (blk_below (s_k BK114.out) hb); replace HB := s_a (below_step (by exact s_b HB.out) hb); clear hb hbox hg; have hnb16 := NB114_115.out; have hnc16 := NB115_114.out; obtain ⟨hcz17_0, hcz17_1, hcz17_2, hcz17_3, hcz17_4, hcz17_5, hcz17_6, hcz17_7, hcz17_8, hcz17_9, hcz17_10, hcz17_11, hcz17_12, hcz17_13, hcz17_14, hcz17_15, hcz17_16⟩ := cells54 BK114.out; obtain ⟨hcz18_0, hcz18_1, hcz18_2, hcz18_3, hcz18_4, hcz18_5, hcz18_6, hcz18_7, hcz18_8, hcz18_9, hcz18_10, hcz18_11, hcz18_12, hcz18_13, hcz18_14, hcz18_15, hcz18_16, hcz18_17, hcz18_18, hcz18_19, hcz18_20, hcz18_21, hcz18_22, hcz18_23, hcz18_24, hcz18_25, hcz18_26, hcz18_27, hcz18_28, hcz18_29, hcz18_30, hcz18_31⟩ := cells41 BK115.out))
    go_ret
    exact ⟨by first | rfl | (simp [errW_none, errW_some] <;> rfl) | (simp [*, errW_none, errW_some] <;> rfl), by exact s_b HB.out⟩
  ·replace c5 := Bool.eq_false_iff.mpr c5
   subst c5
   (try rw [if_neg (show ¬ (false = true) by decide)] at H)
   obtain rfl := Option.some.inj H
   go_enter Try.func20, Try.ntmps20
   go_wp2_with (first | ((with_reducible refine gate_dst (N := 3) rfl ?_); refine box_event ?hg (N := 3) ?hd (cs := #[.string a0_0, .string a0_1, .string a0_2, .int .i64 a0_3, .int .i64 a0_4, .int .i64 a0_5, .int .i64 a0_6, .bool a0_7, .int .i64 a0_8, .slice A0_9 l0_9.length c0_9, .slice A0_10 l0_10.length c0_10, .slice A0_11 l0_11.length c0_11, .slice A0_12 l0_12.length c0_12, .slice A0_13 l0_13.length c0_13, .bool a0_14, .bool false, .slice A0_16 l0_16.length c0_16]) (t := 54) ?hr ?_; (case hd => rfl); (case hg => rfl); (case hr => first | (go_simp; done) | (go_simp; rfl)); intro gb114 hg w19 hbox hb; have BK114 := s_a (hbox); have GW114 := s_a ((by rw [hg]; exact (below_size (by exact s_b HB.out)) : w.heap.size ≤ gb114)); have GE114 := s_a ((by rw [hg]; exact (below_size (by exact s_b HB.out)) : w.heap.size ≤ gb114)); replace HB := s_a (below_step (by exact s_b HB.out) hb); clear hb hbox hg) | ((with_reducible refine gate_dst (N := 4) rfl ?_); refine box_event ?hg (N := 4) ?hd (cs := #[.string a1_0, .string a1_1, .string a1_2, .int .i64 a1_3, .int .i64 a1_4, .int .i64 a1_5, .int .i64 a1_6, .bool a1_7, .int .i64 a1_8, .slice A1_9 l1_9.length c1_9, .slice A1_10 l1_10.length c1_10, .slice A1_11 l1_11.length c1_11, .slice A1_12 l1_12.length c1_12, .string a1_13, .int .i64 a1_14, .int .i64 a1_15, .int .i64 a1_16, .slice A1_17 l1_17.length c1_17, .slice A1_18 l1_18.length c1_18, .slice A1_19 l1_19.length c1_19, .slice A1_20 l1_20.length c1_20, .slice A1_21 l1_21.length c1_21, .slice A1_22 l1_22.length c1_22, .int .i64 a1_23, .bool a1_24, .int .i64 a1_25, .int .i64 a1_26, .int .i64 a1_27, .slice A1_28 l1_28.length c1_28, .int .i64 a1_29, .string a1_30, .string a1_31]) (t := 41) ?hr ?_; (case hd => rfl); (case hg => rfl); (case hr => first | (go_simp; done) | (go_simp; rfl)); intro gb115 hg w20 hbox hb; have BK115 := s_a (hbox); have GW115 := s_a ((by rw [hg]; exact (below_size (by exact s_b HB.out)) : w.heap.size ≤ gb115)); have GE115 := s_a ((by rw [hg]; exact (below_size (by exact s_b HB.out)) : w.heap.size ≤ gb115)); have NB114_115 := s_a ((by rw [hg]; exact Nat.ne_of_lt (blk_lt (s_k BK114.out)) : gb114 ≠ gb115)); have NB115_114 := s_a ((by rw [hg]; exact Nat.ne_of_gt (blk_lt (s_k BK114.out)) : gb115 ≠ gb114)); replace BK114 := s_a (blk_below (s_k BK114.out) hb); replace HB := s_a (below_step (by exact s_b HB.out) hb); clear hb hbox hg; have hnb21 := NB114_115.out; have hnc21 := NB115_114.out; obtain ⟨hcz22_0, hcz22_1, hcz22_2, hcz22_3, hcz22_4, hcz22_5, hcz22_6, hcz22_7, hcz22_8, hcz22_9, hcz22_10, hcz22_11, hcz22_12, hcz22_13, hcz22_14, hcz22_15, hcz22_16⟩ := cells54 BK114.out))
   go_ret
   exact ⟨by first | rfl | (simp [errW_none, errW_some] <;> rfl) | (simp [*, errW_none, errW_some] <;> rfl), by exact s_b HB.out⟩
 ·replace c4 := Bool.eq_false_iff.mpr c4
  subst c4
  (try rw [if_neg (show ¬ (false = true) by decide)] at H)
  by_cases c23 : a0_14 = true
  ·subst c23
   (try rw [if_pos rfl] at H)
   by_cases c24 : a0_1.toList = a1_1.toList
   ·rw [if_pos c24] at H
    have c24b0 : (a0_1.toList == a1_1.toList) = true := beq_iff_eq.mpr c24
    have c24b1 : (a0_1.toList != a1_1.toList) = false := bne_eq_false_iff_eq.mpr c24
    clear c24
    replace H := Option.bind_eq_some_iff.mp H
    obtain ⟨t117, A250, H⟩ := H
    replace H : (some t117) = some r := H
    have A25 := s_a A250
    clear A250
    obtain rfl := Option.some.inj H
    go_enter Try.func20, Try.ntmps20
    go_wp2_with (first | ((with_reducible refine gate_dst (N := 3) rfl ?_); refine box_event ?hg (N := 3) ?hd (cs := #[.string a0_0, .string a0_1, .string a0_2, .int .i64 a0_3, .int .i64 a0_4, .int .i64 a0_5, .int .i64 a0_6, .bool a0_7, .int .i64 a0_8, .slice A0_9 l0_9.length c0_9, .slice A0_10 l0_10.length c0_10, .slice A0_11 l0_11.length c0_11, .slice A0_12 l0_12.length c0_12, .slice A0_13 l0_13.length c0_13, .bool true, .bool a0_15, .slice A0_16 l0_16.length c0_16]) (t := 54) ?hr ?_; (case hd => rfl); (case hg => rfl); (case hr => first | (go_simp; done) | (go_simp; rfl)); intro gb114 hg w26 hbox hb; have BK114 := s_a (hbox); have GW114 := s_a ((by rw [hg]; exact (below_size (by exact s_b HB.out)) : w.heap.size ≤ gb114)); have GE114 := s_a ((by rw [hg]; exact (below_size (by exact s_b HB.out)) : w.heap.size ≤ gb114)); replace HB := s_a (below_step (by exact s_b HB.out) hb); clear hb hbox hg) | ((with_reducible refine gate_dst (N := 4) rfl ?_); refine box_event ?hg (N := 4) ?hd (cs := #[.string a1_0, .string a1_1, .string a1_2, .int .i64 a1_3, .int .i64 a1_4, .int .i64 a1_5, .int .i64 a1_6, .bool a1_7, .int .i64 a1_8, .slice A1_9 l1_9.length c1_9, .slice A1_10 l1_10.length c1_10, .slice A1_11 l1_11.length c1_11, .slice A1_12 l1_12.length c1_12, .string a1_13, .int .i64 a1_14, .int .i64 a1_15, .int .i64 a1_16, .slice A1_17 l1_17.length c1_17, .slice A1_18 l1_18.length c1_18, .slice A1_19 l1_19.length c1_19, .slice A1_20 l1_20.length c1_20, .slice A1_21 l1_21.length c1_21, .slice A1_22 l1_22.length c1_22, .int .i64 a1_23, .bool a1_24, .int .i64 a1_25, .int .i64 a1_26, .int .i64 a1_27, .slice A1_28 l1_28.length c1_28, .int .i64 a1_29, .string a1_30, .string a1_31]) (t := 41) ?hr ?_; (case hd => rfl); (case hg => rfl); (case hr => first | (go_simp; done) | (go_simp; rfl)); intro gb115 hg w27 hbox hb; have BK115 := s_a (hbox); have GW115 := s_a ((by rw [hg]; exact (below_size (by exact s_b HB.out)) : w.heap.size ≤ gb115)); have GE115 := s_a ((by rw [hg]; exact (below_size (by exact s_b HB.out)) : w.heap.size ≤ gb115)); have NB114_115 := s_a ((by rw [hg]; exact Nat.ne_of_lt (blk_lt (s_k BK114.out)) : gb114 ≠ gb115)); have NB115_114 := s_a ((by rw [hg]; exact Nat.ne_of_gt (blk_lt (s_k BK114.out)) : gb115 ≠ gb114)); replace BK114 := s_a (blk_below (s_k BK114.out) hb); replace HB := s_a (below_step (by exact s_b HB.out) hb); clear hb hbox hg; have hnb28 := NB114_115.out; have hnc28 := NB115_114.out; obtain ⟨hcz29_0, hcz29_1, hcz29_2, hcz29_3, hcz29_4, hcz29_5, hcz29_6, hcz29_7, hcz29_8, hcz29_9, hcz29_10, hcz29_11, hcz29_12, hcz29_13, hcz29_14, hcz29_15, hcz29_16⟩ := cells54 BK114.out; obtain ⟨hcz30_0, hcz30_1, hcz30_2, hcz30_3, hcz30_4, hcz30_5, hcz30_6, hcz30_7, hcz30_8, hcz30_9, hcz30_10, hcz30_11, hcz30_12, hcz30_13, hcz30_14, hcz30_15, hcz30_16, hcz30_17, hcz30_18, hcz30_19, hcz30_20, hcz30_21, hcz30_22, hcz30_23, hcz30_24, hcz30_25, hcz30_26, hcz30_27, hcz30_28, hcz30_29, hcz30_30, hcz30_31⟩ := cells41 BK115.out) | (go_at_call 27; (with_reducible refine (label_Matches.calls k _ _ _ _ _ _ _ _ ?side1 ?side2 ?side3 ?side4 A25.out).mono ?_); (case side1 => exact s_D HR0_13.out HB.out); (case side2 => exact HC0_13.out); (case side3 => exact s_D HR1_9.out HB.out); (case side4 => exact HC1_9.out); rintro e w31 ⟨rfl, hb⟩; (try clear A25); replace BK114 := s_a (blk_below (s_k BK114.out) hb); replace BK115 := s_a (blk_below (s_k BK115.out) hb); replace HB := s_a (below_step (by exact s_b HB.out) hb); (try clear hb)))
    go_ret
    exact ⟨by first | rfl | (simp [errW_none, errW_some] <;> rfl) | (simp [*, errW_none, errW_some] <;> rfl), by exact s_b HB.out⟩
   ·rw [if_neg c24] at H
    have c24b0 : (a0_1.toList == a1_1.toList) = false := beq_eq_false_iff_ne.mpr c24
    have c24b1 : (a0_1.toList != a1_1.toList) = true := bne_iff_ne.mpr c24
    obtain rfl := Option.some.inj H
    go_enter Try.func20, Try.ntmps20
    go_wp2_with (first | ((with_reducible refine gate_dst (N := 3) rfl ?_); refine box_event ?hg (N := 3) ?hd (cs := #[.string a0_0, .string a0_1, .string a0_2, .int .i64 a0_3, .int .i64 a0_4, .int .i64 a0_5, .int .i64 a0_6, .bool a0_7, .int .i64 a0_8, .slice A0_9 l0_9.length c0_9, .slice A0_10 l0_10.length c0_10, .slice A0_11 l0_11.length c0_11, .slice A0_12 l0_12.length c0_12, .slice A0_13 l0_13.length c0_13, .bool true, .bool a0_15, .slice A0_16 l0_16.length c0_16]) (t := 54) ?hr ?_; (case hd => rfl); (case hg => rfl); (case hr => first | (go_simp; done) | (go_simp; rfl)); intro gb114 hg w32 hbox hb; have BK114 := s_a (hbox); have GW114 := s_a ((by rw [hg]; exact (below_size (by exact s_b HB.out)) : w.heap.size ≤ gb114)); have GE114 := s_a ((by rw [hg]; exact (below_size (by exact s_b HB.out)) : w.heap.size ≤ gb114)); replace HB := s_a (below_step (by exact s_b HB.out) hb); clear hb hbox hg) | ((with_reducible refine gate_dst (N := 4) rfl ?_); refine box_event ?hg (N := 4) ?hd (cs := #[.string a1_0, .string a1_1, .string a1_2, .int .i64 a1_3, .int .i64 a1_4, .int .i64 a1_5, .int .i64 a1_6, .bool a1_7, .int .i64 a1_8, .slice A1_9 l1_9.length c1_9, .slice A1_10 l1_10.length c1_10, .slice A1_11 l1_11.length c1_11, .slice A1_12 l1_12.length c1_12, .string a1_13, .int .i64 a1_14, .int .i64 a1_15, .int .i64 a1_16, .slice A1_17 l1_17.length c1_17, .slice A1_18 l1_18.length c1_18, .slice A1_19 l1_19.length c1_19, .slice A1_20 l1_20.length c1_20, .slice A1_21 l1_21.length c1_21, .slice A1_22 l1_22.length c1_22, .int .i64 a1_23, .bool a1_24, .int .i64 a1_25, .int .i64 a1_26, .int .i64 a1_27, .slice A1_28 l1_28.length c1_28, .int .i64 a1_29, .string a1_30, .string a1_31]) (t := 41) ?hr ?_; (case hd => rfl); (case hg => rfl); (case hr => first | (go_simp; done) | (go_simp; rfl)); intro gb115 hg w33 hbox hb; have BK115 := s_a (hbox); have GW115 := s_a ((by rw [hg]; exact (below_size (by exact s_b HB.out)) : w.heap.size ≤ gb115)); have GE115 := s_a ((by rw [hg]; exact (below_size (by exact s_b HB.out)) : w.heap.size ≤ gb115)); have NB114_115 := s_a ((by rw [hg]; exact Nat.ne_of_lt (blk_lt (s_k BK114.out)) : gb114 ≠ gb115)); have NB115_114 := s_a ((by rw [hg]; exact Nat.ne_of_gt (blk_lt (s_k BK114.out)) : gb115 ≠ gb114)); replace BK114 := s_a (blk_below (s_k BK114.out) hb); replace HB := s_a (below_step (by exact s_b HB.out) hb); clear hb hbox hg; have hnb34 := NB114_115.out; have hnc34 := NB115_114.out; obtain ⟨hcz35_0, hcz35_1, hcz35_2, hcz35_3, hcz35_4, hcz35_5, hcz35_6, hcz35_7, hcz35_8, hcz35_9, hcz35_10, hcz35_11, hcz35_12, hcz35_13, hcz35_14, hcz35_15, hcz35_16⟩ := cells54 BK114.out; obtain ⟨hcz36_0, hcz36_1, hcz36_2, hcz36_3, hcz36_4, hcz36_5, hcz36_6, hcz36_7, hcz36_8, hcz36_9, hcz36_10, hcz36_11, hcz36_12, hcz36_13, hcz36_14, hcz36_15, hcz36_16, hcz36_17, hcz36_18, hcz36_19, hcz36_20, hcz36_21, hcz36_22, hcz36_23, hcz36_24, hcz36_25, hcz36_26, hcz36_27, hcz36_28, hcz36_29, hcz36_30, hcz36_31⟩ := cells41 BK115.out))
    go_ret
    exact ⟨by first | rfl | (simp [errW_none, errW_some] <;> rfl) | (simp [*, errW_none, errW_some] <;> rfl), by exact s_b HB.out⟩
  ·replace c23 := Bool.eq_false_iff.mpr c23
   subst c23
   (try rw [if_neg (show ¬ (false = true) by decide)] at H)
   obtain rfl := Option.some.inj H
   go_enter Try.func20, Try.ntmps20
   go_wp2_with (first | ((with_reducible refine gate_dst (N := 3) rfl ?_); refine box_event ?hg (N := 3) ?hd (cs := #[.string a0_0, .string a0_1, .string a0_2, .int .i64 a0_3, .int .i64 a0_4, .int .i64 a0_5, .int .i64 a0_6, .bool a0_7, .int .i64 a0_8, .slice A0_9 l0_9.length c0_9, .slice A0_10 l0_10.length c0_10, .slice A0_11 l0_11.length c0_11, .slice A0_12 l0_12.length c0_12, .slice A0_13 l0_13.length c0_13, .bool false, .bool a0_15, .slice A0_16 l0_16.length c0_16]) (t := 54) ?hr ?_; (case hd => rfl); (case hg => rfl); (case hr => first | (go_simp; done) | (go_simp; rfl)); intro gb114 hg w37 hbox hb; have BK114 := s_a (hbox); have GW114 := s_a ((by rw [hg]; exact (below_size (by exact s_b HB.out)) : w.heap.size ≤ gb114)); have GE114 := s_a ((by rw [hg]; exact (below_size (by exact s_b HB.out)) : w.heap.size ≤ gb114)); replace HB := s_a (below_step (by exact s_b HB.out) hb); clear hb hbox hg) | ((with_reducible refine gate_dst (N := 4) rfl ?_); refine box_event ?hg (N := 4) ?hd (cs := #[.string a1_0, .string a1_1, .string a1_2, .int .i64 a1_3, .int .i64 a1_4, .int .i64 a1_5, .int .i64 a1_6, .bool a1_7, .int .i64 a1_8, .slice A1_9 l1_9.length c1_9, .slice A1_10 l1_10.length c1_10, .slice A1_11 l1_11.length c1_11, .slice A1_12 l1_12.length c1_12, .string a1_13, .int .i64 a1_14, .int .i64 a1_15, .int .i64 a1_16, .slice A1_17 l1_17.length c1_17, .slice A1_18 l1_18.length c1_18, .slice A1_19 l1_19.length c1_19, .slice A1_20 l1_20.length c1_20, .slice A1_21 l1_21.length c1_21, .slice A1_22 l1_22.length c1_22, .int .i64 a1_23, .bool a1_24, .int .i64 a1_25, .int .i64 a1_26, .int .i64 a1_27, .slice A1_28 l1_28.length c1_28, .int .i64 a1_29, .string a1_30, .string a1_31]) (t := 41) ?hr ?_; (case hd => rfl); (case hg => rfl); (case hr => first | (go_simp; done) | (go_simp; rfl)); intro gb115 hg w38 hbox hb; have BK115 := s_a (hbox); have GW115 := s_a ((by rw [hg]; exact (below_size (by exact s_b HB.out)) : w.heap.size ≤ gb115)); have GE115 := s_a ((by rw [hg]; exact (below_size (by exact s_b HB.out)) : w.heap.size ≤ gb115)); have NB114_115 := s_a ((by rw [hg]; exact Nat.ne_of_lt (blk_lt (s_k BK114.out)) : gb114 ≠ gb115)); have NB115_114 := s_a ((by rw [hg]; exact Nat.ne_of_gt (blk_lt (s_k BK114.out)) : gb115 ≠ gb114)); replace BK114 := s_a (blk_below (s_k BK114.out) hb); replace HB := s_a (below_step (by exact s_b HB.out) hb); clear hb hbox hg; have hnb39 := NB114_115.out; have hnc39 := NB115_114.out; obtain ⟨hcz40_0, hcz40_1, hcz40_2, hcz40_3, hcz40_4, hcz40_5, hcz40_6, hcz40_7, hcz40_8, hcz40_9, hcz40_10, hcz40_11, hcz40_12, hcz40_13, hcz40_14, hcz40_15, hcz40_16⟩ := cells54 BK114.out))
   go_ret
   exact ⟨by first | rfl | (simp [errW_none, errW_some] <;> rfl) | (simp [*, errW_none, errW_some] <;> rfl), by exact s_b HB.out⟩
def netpolicy_Isolated_1.f (k : Nat) (a0_0 : ByteArray) (a0_1 : ByteArray) (a0_2 : ByteArray) (a0_3 : Int) (a0_4 : Int) (a0_5 : Int) (a0_6 : Int) (a0_7 : Bool) (a0_8 : Int) (l0_9 : List (S72)) (l0_10 : List (S110)) (l0_11 : List ByteArray) (l0_12 : List (S112)) (l0_13 : List (S74)) (a0_14 : Bool) (a0_15 : Bool) (l0_16 : List (S58)) (a1_0 : ByteArray) (a1_1 : ByteArray) (a1_2 : ByteArray) (a1_3 : Int) (a1_4 : Int) (a1_5 : Int) (a1_6 : Int) (a1_7 : Bool) (a1_8 : Int) (l1_9 : List (S72)) (l1_10 : List (S110)) (l1_11 : List ByteArray) (l1_12 : List (S112)) (a1_13 : ByteArray) (a1_14 : Int) (a1_15 : Int) (a1_16 : Int) (l1_17 : List (S117)) (l1_18 : List (S74)) (l1_19 : List (S119)) (l1_20 : List (S121)) (l1_21 : List (S123)) (l1_22 : List (S125)) (a1_23 : Int) (a1_24 : Bool) (a1_25 : Int) (a1_26 : Int) (a1_27 : Int) (l1_28 : List (S127)) (a1_29 : Int) (a1_30 : ByteArray) (a1_31 : ByteArray) (a2 : Bool) : Option (Bool) := (netpolicy_isolates.f k a0_0 a0_1 a0_2 a0_3 a0_4 a0_5 a0_6 a0_7 a0_8 l0_9 l0_10 l0_11 l0_12 l0_13 a0_14 a0_15 l0_16 a1_0 a1_1 a1_2 a1_3 a1_4 a1_5 a1_6 a1_7 a1_8 l1_9 l1_10 l1_11 l1_12 a1_13 a1_14 a1_15 a1_16 l1_17 l1_18 l1_19 l1_20 l1_21 l1_22 a1_23 a1_24 a1_25 a1_26 a1_27 l1_28 a1_29 a1_30 a1_31 a2).bind fun t121 => (some t121)
theorem netpolicy_Isolated_1.mono : ∀ a0 a1 a2 a3 a4 a5 a6 a7 a8 a9 a10 a11 a12 a13 a14 a15 a16 a17 a18 a19 a20 a21 a22 a23 a24 a25 a26 a27 a28 a29 a30 a31 a32 a33 a34 a35 a36 a37 a38 a39 a40 a41 a42 a43 a44 a45 a46 a47 a48 a49 k, LeO (netpolicy_Isolated_1.f k a0 a1 a2 a3 a4 a5 a6 a7 a8 a9 a10 a11 a12 a13 a14 a15 a16 a17 a18 a19 a20 a21 a22 a23 a24 a25 a26 a27 a28 a29 a30 a31 a32 a33 a34 a35 a36 a37 a38 a39 a40 a41 a42 a43 a44 a45 a46 a47 a48 a49) (netpolicy_Isolated_1.f (k + 1) a0 a1 a2 a3 a4 a5 a6 a7 a8 a9 a10 a11 a12 a13 a14 a15 a16 a17 a18 a19 a20 a21 a22 a23 a24 a25 a26 a27 a28 a29 a30 a31 a32 a33 a34 a35 a36 a37 a38 a39 a40 a41 a42 a43 a44 a45 a46 a47 a48 a49) := by
 intro a0 a1 a2 a3 a4 a5 a6 a7 a8 a9 a10 a11 a12 a13 a14 a15 a16 a17 a18 a19 a20 a21 a22 a23 a24 a25 a26 a27 a28 a29 a30 a31 a32 a33 a34 a35 a36 a37 a38 a39 a40 a41 a42 a43 a44 a45 a46 a47 a48 a49 k
 unfold netpolicy_Isolated_1.f
 repeat' first
   | (with_reducible exact netpolicy_isolates.mono _ _ _ _ _ _ _ _ _ _ _ _ _ _ _ _ _ _ _ _ _ _ _ _ _ _ _ _ _ _ _ _ _ _ _ _ _ _ _ _ _ _ _ _ _ _ _ _ _ _ _)
   | (with_reducible exact LeO.refl _)
   | (with_reducible exact LeO.none _)
   | (with_reducible refine LeO.ite ?_ ?_)
   | (with_reducible refine LeO.bind ?_ (fun _ => ?_))
   | exact netpolicy_isolates.mono _ _ _ _ _ _ _ _ _ _ _ _ _ _ _ _ _ _ _ _ _ _ _ _ _ _ _ _ _ _ _ _ _ _ _ _ _ _ _ _ _ _ _ _ _ _ _ _ _ _ _
   | exact LeO.none _
   | refine LeO.ite ?_ ?_
   | refine LeO.bind ?_ (fun _ => ?_)
set_option maxHeartbeats 8000000 in
set_option maxRecDepth 100000 in
theorem netpolicy_Isolated_1.calls (k : Nat) (a0_0 : ByteArray) (a0_1 : ByteArray) (a0_2 : ByteArray) (a0_3 : Int) (a0_4 : Int) (a0_5 : Int) (a0_6 : Int) (a0_7 : Bool) (a0_8 : Int) (A0_9 : Option Addr) (c0_9 : Nat) (l0_9 : List (S72)) (A0_10 : Option Addr) (c0_10 : Nat) (l0_10 : List (S110)) (A0_11 : Option Addr) (c0_11 : Nat) (l0_11 : List ByteArray) (A0_12 : Option Addr) (c0_12 : Nat) (l0_12 : List (S112)) (A0_13 : Option Addr) (c0_13 : Nat) (l0_13 : List (S74)) (a0_14 : Bool) (a0_15 : Bool) (A0_16 : Option Addr) (c0_16 : Nat) (l0_16 : List (S58)) (g1_ : Nat) (a1_0 : ByteArray) (a1_1 : ByteArray) (a1_2 : ByteArray) (a1_3 : Int) (a1_4 : Int) (a1_5 : Int) (a1_6 : Int) (a1_7 : Bool) (a1_8 : Int) (A1_9 : Option Addr) (c1_9 : Nat) (l1_9 : List (S72)) (A1_10 : Option Addr) (c1_10 : Nat) (l1_10 : List (S110)) (A1_11 : Option Addr) (c1_11 : Nat) (l1_11 : List ByteArray) (A1_12 : Option Addr) (c1_12 : Nat) (l1_12 : List (S112)) (a1_13 : ByteArray) (a1_14 : Int) (a1_15 : Int) (a1_16 : Int) (A1_17 : Option Addr) (c1_17 : Nat) (l1_17 : List (S117)) (A1_18 : Option Addr) (c1_18 : Nat) (l1_18 : List (S74)) (A1_19 : Option Addr) (c1_19 : Nat) (l1_19 : List (S119)) (A1_20 : Option Addr) (c1_20 : Nat) (l1_20 : List (S121)) (A1_21 : Option Addr) (c1_21 : Nat) (l1_21 : List (S123)) (A1_22 : Option Addr) (c1_22 : Nat) (l1_22 : List (S125)) (a1_23 : Int) (a1_24 : Bool) (a1_25 : Int) (a1_26 : Int) (a1_27 : Int) (A1_28 : Option Addr) (c1_28 : Nat) (l1_28 : List (S127)) (a1_29 : Int) (a1_30 : ByteArray) (a1_31 : ByteArray) (g2_ : Nat) (a2 : Bool) (r : Bool) (w : World) (hr0_9 : Kd.C k72 w A0_9 l0_9.length l0_9) (hc0_9 : l0_9.length ≤ c0_9) (hr0_10 : Kd.C k110 w A0_10 l0_10.length l0_10) (hc0_10 : l0_10.length ≤ c0_10) (hr0_11 : Kd.C Kd.string w A0_11 l0_11.length l0_11) (hc0_11 : l0_11.length ≤ c0_11) (hr0_12 : Kd.C k112 w A0_12 l0_12.length l0_12) (hc0_12 : l0_12.length ≤ c0_12) (hr0_13 : Kd.C k74 w A0_13 l0_13.length l0_13) (hc0_13 : l0_13.length ≤ c0_13) (hr0_16 : Kd.C k58 w A0_16 l0_16.length l0_16) (hc0_16 : l0_16.length ≤ c0_16) (hr1_9 : Kd.C k72 w A1_9 l1_9.length l1_9) (hc1_9 : l1_9.length ≤ c1_9) (hr1_10 : Kd.C k110 w A1_10 l1_10.length l1_10) (hc1_10 : l1_10.length ≤ c1_10) (hr1_11 : Kd.C Kd.string w A1_11 l1_11.length l1_11) (hc1_11 : l1_11.length ≤ c1_11) (hr1_12 : Kd.C k112 w A1_12 l1_12.length l1_12) (hc1_12 : l1_12.length ≤ c1_12) (hr1_17 : Kd.C k117 w A1_17 l1_17.length l1_17) (hc1_17 : l1_17.length ≤ c1_17) (hr1_18 : Kd.C k74 w A1_18 l1_18.length l1_18) (hc1_18 : l1_18.length ≤ c1_18) (hr1_19 : Kd.C k119 w A1_19 l1_19.length l1_19) (hc1_19 : l1_19.length ≤ c1_19) (hr1_20 : Kd.C k121 w A1_20 l1_20.length l1_20) (hc1_20 : l1_20.length ≤ c1_20) (hr1_21 : Kd.C k123 w A1_21 l1_21.length l1_21) (hc1_21 : l1_21.length ≤ c1_21) (hr1_22 : Kd.C k125 w A1_22 l1_22.length l1_22) (hc1_22 : l1_22.length ≤ c1_22) (hr1_28 : Kd.C k127 w A1_28 l1_28.length l1_28) (hc1_28 : l1_28.length ≤ c1_28) (hbx1 : w.heap[g1_]? = some (.cells #[.string a1_0, .string a1_1, .string a1_2, .int .i64 a1_3, .int .i64 a1_4, .int .i64 a1_5, .int .i64 a1_6, .bool a1_7, .int .i64 a1_8, .slice A1_9 l1_9.length c1_9, .slice A1_10 l1_10.length c1_10, .slice A1_11 l1_11.length c1_11, .slice A1_12 l1_12.length c1_12, .string a1_13, .int .i64 a1_14, .int .i64 a1_15, .int .i64 a1_16, .slice A1_17 l1_17.length c1_17, .slice A1_18 l1_18.length c1_18, .slice A1_19 l1_19.length c1_19, .slice A1_20 l1_20.length c1_20, .slice A1_21 l1_21.length c1_21, .slice A1_22 l1_22.length c1_22, .int .i64 a1_23, .bool a1_24, .int .i64 a1_25, .int .i64 a1_26, .int .i64 a1_27, .slice A1_28 l1_28.length c1_28, .int .i64 a1_29, .string a1_30, .string a1_31] 41 (0, 0))) (hbx2 : w.heap[g2_]? = some (.cells #[.bool a2] 4 (0, 0))) (hbn1_2 : g1_ ≠ g2_) (h : netpolicy_Isolated_1.f k a0_0 a0_1 a0_2 a0_3 a0_4 a0_5 a0_6 a0_7 a0_8 l0_9 l0_10 l0_11 l0_12 l0_13 a0_14 a0_15 l0_16 a1_0 a1_1 a1_2 a1_3 a1_4 a1_5 a1_6 a1_7 a1_8 l1_9 l1_10 l1_11 l1_12 a1_13 a1_14 a1_15 a1_16 l1_17 l1_18 l1_19 l1_20 l1_21 l1_22 a1_23 a1_24 a1_25 a1_26 a1_27 l1_28 a1_29 a1_30 a1_31 a2 = some r) :
  Calls Try.prog 19 #[.agg #[.string a0_0, .string a0_1, .string a0_2, .int .i64 a0_3, .int .i64 a0_4, .int .i64 a0_5, .int .i64 a0_6, .bool a0_7, .int .i64 a0_8, .slice A0_9 l0_9.length c0_9, .slice A0_10 l0_10.length c0_10, .slice A0_11 l0_11.length c0_11, .slice A0_12 l0_12.length c0_12, .slice A0_13 l0_13.length c0_13, .bool a0_14, .bool a0_15, .slice A0_16 l0_16.length c0_16], .pointer (some ⟨g1_, 0, none⟩), .pointer (some ⟨g2_, 0, none⟩)] w fun e w' => e = .returned (.bool r) ∧ Below w.heap.size w w' := by
 have hu54 := Try.underlying54
 have hu41 := Try.underlying41
 have HR0_9 := s_a hr0_9
 have HC0_9 := s_a hc0_9
 clear hr0_9 hc0_9
 have HR0_10 := s_a hr0_10
 have HC0_10 := s_a hc0_10
 clear hr0_10 hc0_10
 have HR0_11 := s_a hr0_11
 have HC0_11 := s_a hc0_11
 clear hr0_11 hc0_11
 have HR0_12 := s_a hr0_12
 have HC0_12 := s_a hc0_12
 clear hr0_12 hc0_12
 have HR0_13 := s_a hr0_13
 have HC0_13 := s_a hc0_13
 clear hr0_13 hc0_13
 have HR0_16 := s_a hr0_16
 have HC0_16 := s_a hc0_16
 clear hr0_16 hc0_16
 have HR1_9 := s_a hr1_9
 have HC1_9 := s_a hc1_9
 clear hr1_9 hc1_9
 have HR1_10 := s_a hr1_10
 have HC1_10 := s_a hc1_10
 clear hr1_10 hc1_10
 have HR1_11 := s_a hr1_11
 have HC1_11 := s_a hc1_11
 clear hr1_11 hc1_11
 have HR1_12 := s_a hr1_12
 have HC1_12 := s_a hc1_12
 clear hr1_12 hc1_12
 have HR1_17 := s_a hr1_17
 have HC1_17 := s_a hc1_17
 clear hr1_17 hc1_17
 have HR1_18 := s_a hr1_18
 have HC1_18 := s_a hc1_18
 clear hr1_18 hc1_18
 have HR1_19 := s_a hr1_19
 have HC1_19 := s_a hc1_19
 clear hr1_19 hc1_19
 have HR1_20 := s_a hr1_20
 have HC1_20 := s_a hc1_20
 clear hr1_20 hc1_20
 have HR1_21 := s_a hr1_21
 have HC1_21 := s_a hc1_21
 clear hr1_21 hc1_21
 have HR1_22 := s_a hr1_22
 have HC1_22 := s_a hc1_22
 clear hr1_22 hc1_22
 have HR1_28 := s_a hr1_28
 have HC1_28 := s_a hc1_28
 clear hr1_28 hc1_28
 have BK118 := s_a hbx1
 clear hbx1
 have BK119 := s_a hbx2
 clear hbx2
 have NB118_119 := s_a hbn1_2
 have NB119_118 := s_a (Ne.symm hbn1_2)
 clear hbn1_2
 have HB := s_a (Below.refl w.heap.size w)
 have H := h; unfold netpolicy_Isolated_1.f at H
 clear h
 replace H := Option.bind_eq_some_iff.mp H
 obtain ⟨t121, A40, H⟩ := H
 replace H : (some t121) = some r := H
 have A4 := s_a A40
 clear A40
 obtain rfl := Option.some.inj H
 go_enter Try.func19, Try.ntmps19
 go_wp2_with (first | ((with_reducible refine gate_dst (N := 3) rfl ?_); refine box_event ?hg (N := 3) ?hd (cs := #[.string a0_0, .string a0_1, .string a0_2, .int .i64 a0_3, .int .i64 a0_4, .int .i64 a0_5, .int .i64 a0_6, .bool a0_7, .int .i64 a0_8, .slice A0_9 l0_9.length c0_9, .slice A0_10 l0_10.length c0_10, .slice A0_11 l0_11.length c0_11, .slice A0_12 l0_12.length c0_12, .slice A0_13 l0_13.length c0_13, .bool a0_14, .bool a0_15, .slice A0_16 l0_16.length c0_16]) (t := 54) ?hr ?_; (case hd => rfl); (case hg => rfl); (case hr => first | (go_simp; done) | (go_simp; rfl)); intro gb120 hg w5 hbox hb; have BK120 := s_a (hbox); have GW120 := s_a ((by rw [hg]; exact (below_size (by exact s_b HB.out)) : w.heap.size ≤ gb120)); have GE120 := s_a ((by rw [hg]; exact (below_size (by exact s_b HB.out)) : w.heap.size ≤ gb120)); have NB118_120 := s_a ((by rw [hg]; exact Nat.ne_of_lt (blk_lt (s_k BK118.out)) : g1_ ≠ gb120)); have NB120_118 := s_a ((by rw [hg]; exact Nat.ne_of_gt (blk_lt (s_k BK118.out)) : gb120 ≠ g1_)); have NB119_120 := s_a ((by rw [hg]; exact Nat.ne_of_lt (blk_lt (s_k BK119.out)) : g2_ ≠ gb120)); have NB120_119 := s_a ((by rw [hg]; exact Nat.ne_of_gt (blk_lt (s_k BK119.out)) : gb120 ≠ g2_)); replace BK118 := s_a (blk_below (s_k BK118.out) hb); replace BK119 := s_a (blk_below (s_k BK119.out) hb); replace HB := s_a (below_step (by exact s_b HB.out) hb); clear hb hbox hg) | ((with_reducible refine gate_dst (N := 5) rfl ?_); refine wpList_load_row rfl 54 (.tmp 3) rfl gb120 rfl 54 _ (0, 0) _ (s_k BK120.out) Try.underlying54 rfl sz54 ?_) | ((with_reducible refine gate_dst (N := 6) rfl ?_); refine wpList_load_row rfl 41 (.tmp 1) rfl g1_ rfl 41 _ (0, 0) _ (s_k BK118.out) Try.underlying41 rfl sz41 ?_; have hnb6 := NB119_118.out; have hnc6 := NB118_119.out; have hnb7 := NB119_120.out; have hnc7 := NB120_119.out; have hcz8_0 : w5.cell? ⟨g2_, 0, none⟩ = some (.bool a2) := (blk_cell BK119.out 0).trans rfl) | ((with_reducible refine gate_callee (f := 20) rfl ?_); refine goesL_ (some 8) rfl rfl Try.func20 (by kernel_rfl) rfl #[.agg #[.string a0_0, .string a0_1, .string a0_2, .int .i64 a0_3, .int .i64 a0_4, .int .i64 a0_5, .int .i64 a0_6, .bool a0_7, .int .i64 a0_8, .slice A0_9 l0_9.length c0_9, .slice A0_10 l0_10.length c0_10, .slice A0_11 l0_11.length c0_11, .slice A0_12 l0_12.length c0_12, .slice A0_13 l0_13.length c0_13, .bool a0_14, .bool a0_15, .slice A0_16 l0_16.length c0_16], .agg #[.string a1_0, .string a1_1, .string a1_2, .int .i64 a1_3, .int .i64 a1_4, .int .i64 a1_5, .int .i64 a1_6, .bool a1_7, .int .i64 a1_8, .slice A1_9 l1_9.length c1_9, .slice A1_10 l1_10.length c1_10, .slice A1_11 l1_11.length c1_11, .slice A1_12 l1_12.length c1_12, .string a1_13, .int .i64 a1_14, .int .i64 a1_15, .int .i64 a1_16, .slice A1_17 l1_17.length c1_17, .slice A1_18 l1_18.length c1_18, .slice A1_19 l1_19.length c1_19, .slice A1_20 l1_20.length c1_20, .slice A1_21 l1_21.length c1_21, .slice A1_22 l1_22.length c1_22, .int .i64 a1_23, .bool a1_24, .int .i64 a1_25, .int .i64 a1_26, .int .i64 a1_27, .slice A1_28 l1_28.length c1_28, .int .i64 a1_29, .string a1_30, .string a1_31], .bool a2] rfl (by (try simp only [List.map_toArray, List.map_cons, List.map_nil]); first | done | rfl | (simp only [List.length_drop, List.length_take]; rfl)) ?_; (with_reducible refine (netpolicy_isolates.calls k _ _ _ _ _ _ _ _ _ _ _ _ _ _ _ _ _ _ _ _ _ _ _ _ _ _ _ _ _ _ _ _ _ _ _ _ _ _ _ _ _ _ _ _ _ _ _ _ _ _ _ _ _ _ _ _ _ _ _ _ _ _ _ _ _ _ _ _ _ _ _ _ _ _ _ _ _ _ _ _ _ _ _ _ _ _ ?side1 ?side2 ?side3 ?side4 ?side5 ?side6 ?side7 ?side8 ?side9 ?side10 ?side11 ?side12 ?side13 ?side14 ?side15 ?side16 ?side17 ?side18 ?side19 ?side20 ?side21 ?side22 ?side23 ?side24 ?side25 ?side26 ?side27 ?side28 ?side29 ?side30 ?side31 ?side32 ?side33 ?side34 A4.out).mono ?_); (case side1 => exact s_D HR0_9.out HB.out); (case side2 => exact HC0_9.out); (case side3 => exact s_D HR0_10.out HB.out); (case side4 => exact HC0_10.out); (case side5 => exact s_D HR0_11.out HB.out); (case side6 => exact HC0_11.out); (case side7 => exact s_D HR0_12.out HB.out); (case side8 => exact HC0_12.out); (case side9 => exact s_D HR0_13.out HB.out); (case side10 => exact HC0_13.out); (case side11 => exact s_D HR0_16.out HB.out); (case side12 => exact HC0_16.out); (case side13 => exact s_D HR1_9.out HB.out); (case side14 => exact HC1_9.out); (case side15 => exact s_D HR1_10.out HB.out); (case side16 => exact HC1_10.out); (case side17 => exact s_D HR1_11.out HB.out); (case side18 => exact HC1_11.out); (case side19 => exact s_D HR1_12.out HB.out); (case side20 => exact HC1_12.out); (case side21 => exact s_D HR1_17.out HB.out); (case side22 => exact HC1_17.out); (case side23 => exact s_D HR1_18.out HB.out); (case side24 => exact HC1_18.out); (case side25 => exact s_D HR1_19.out HB.out); (case side26 => exact HC1_19.out); (case side27 => exact s_D HR1_20.out HB.out); (case side28 => exact HC1_20.out); (case side29 => exact s_D HR1_21.out HB.out); (case side30 => exact HC1_21.out); (case side31 => exact s_D HR1_22.out HB.out); (case side32 => exact HC1_22.out); (case side33 => exact s_D HR1_28.out HB.out); (case side34 => exact HC1_28.out); rintro e w9 ⟨rfl, hb⟩; refine ⟨_, rfl, ?_⟩; replace BK118 := s_a (blk_below (s_k BK118.out) hb); replace BK119 := s_a (blk_below (s_k BK119.out) hb); replace BK120 := s_a (blk_below (s_k BK120.out) hb); replace HB := s_a (below_step (by exact s_b HB.out) hb); (try clear hb)))
 go_ret
 exact ⟨by first | rfl | (simp [errW_none, errW_some] <;> rfl) | (simp [*, errW_none, errW_some] <;> rfl), by exact s_b HB.out⟩
def api_NetworkPolicy_26_c19.l0 : Nat → List (S54) → Int → Int → ByteArray → ByteArray → ByteArray → Int → Int → Int → Int → Bool → Int → List (S72) → List (S110) → List ByteArray → List (S112) → ByteArray → Int → Int → Int → List (S117) → List (S74) → List (S119) → List (S121) → List (S123) → List (S125) → Int → Bool → Int → Int → Int → List (S127) → Int → ByteArray → ByteArray → Bool → Option (Int)
 | 0, _, _, _, _, _, _, _, _, _, _, _, _, _, _, _, _, _, _, _, _, _, _, _, _, _, _, _, _, _, _, _, _, _, _, _, _ => none
 | k + 1, x0, x7, x8, x127000, x127001, x127002, x127003, x127004, x127005, x127006, x127007, x127008, x127009, x127010, x127011, x127012, x127013, x127014, x127015, x127016, x127017, x127018, x127019, x127020, x127021, x127022, x127023, x127024, x127025, x127026, x127027, x127028, x127029, x127030, x127031, x128000 => if x8 < x7 then (if 0 ≤ x8 then (if x8 < (x0.length : Int) then ((netpolicy_Isolated_1.f k ((rd_T54 x0 x8).f0.f0) ((rd_T54 x0 x8).f0.f1) ((rd_T54 x0 x8).f0.f2) ((rd_T54 x0 x8).f0.f3) ((rd_T54 x0 x8).f0.f4) ((rd_T54 x0 x8).f0.f5) ((rd_T54 x0 x8).f0.f6) ((rd_T54 x0 x8).f0.f7) ((rd_T54 x0 x8).f0.f8) ((rd_T54 x0 x8).f0.f9) ((rd_T54 x0 x8).f0.f10) ((rd_T54 x0 x8).f0.f11) ((rd_T54 x0 x8).f0.f12) ((rd_T54 x0 x8).f1) ((rd_T54 x0 x8).f2) ((rd_T54 x0 x8).f3) ((rd_T54 x0 x8).f4) x127000 x127001 x127002 x127003 x127004 x127005 x127006 x127007 x127008 x127009 x127010 x127011 x127012 x127013 x127014 x127015 x127016 x127017 x127018 x127019 x127020 x127021 x127022 x127023 x127024 x127025 x127026 x127027 x127028 x127029 x127030 x127031 x128000).bind fun t129 => (if t129 = true then (some x8) else (api_NetworkPolicy_26_c19.l0 k x0 x7 (wrap64 (x8 + 1)) x127000 x127001 x127002 x127003 x127004 x127005 x127006 x127007 x127008 x127009 x127010 x127011 x127012 x127013 x127014 x127015 x127016 x127017 x127018 x127019 x127020 x127021 x127022 x127023 x127024 x127025 x127026 x127027 x127028 x127029 x127030 x127031 x128000))) else (none)) else (none)) else (some (-1))
def api_NetworkPolicy_26_c19.f (k : Nat) (l0 : List (S54)) (a200_0 : ByteArray) (a200_1 : ByteArray) (a200_2 : ByteArray) (a200_3 : Int) (a200_4 : Int) (a200_5 : Int) (a200_6 : Int) (a200_7 : Bool) (a200_8 : Int) (l200_9 : List (S72)) (l200_10 : List (S110)) (l200_11 : List ByteArray) (l200_12 : List (S112)) (a200_13 : ByteArray) (a200_14 : Int) (a200_15 : Int) (a200_16 : Int) (l200_17 : List (S117)) (l200_18 : List (S74)) (l200_19 : List (S119)) (l200_20 : List (S121)) (l200_21 : List (S123)) (l200_22 : List (S125)) (a200_23 : Int) (a200_24 : Bool) (a200_25 : Int) (a200_26 : Int) (a200_27 : Int) (l200_28 : List (S127)) (a200_29 : Int) (a200_30 : ByteArray) (a200_31 : ByteArray) (a201 : Bool) : Option (Int) := api_NetworkPolicy_26_c19.l0 k l0 (l0.length : Int) 0 a200_0 a200_1 a200_2 a200_3 a200_4 a200_5 a200_6 a200_7 a200_8 l200_9 l200_10 l200_11 l200_12 a200_13 a200_14 a200_15 a200_16 l200_17 l200_18 l200_19 l200_20 l200_21 l200_22 a200_23 a200_24 a200_25 a200_26 a200_27 l200_28 a200_29 a200_30 a200_31 a201
theorem api_NetworkPolicy_26_c19.mono_l : ∀ k, (∀ y0 y1 y2 y3 y4 y5 y6 y7 y8 y9 y10 y11 y12 y13 y14 y15 y16 y17 y18 y19 y20 y21 y22 y23 y24 y25 y26 y27 y28 y29 y30 y31 y32 y33 y34 y35, LeO (api_NetworkPolicy_26_c19.l0 k y0 y1 y2 y3 y4 y5 y6 y7 y8 y9 y10 y11 y12 y13 y14 y15 y16 y17 y18 y19 y20 y21 y22 y23 y24 y25 y26 y27 y28 y29 y30 y31 y32 y33 y34 y35) (api_NetworkPolicy_26_c19.l0 (k + 1) y0 y1 y2 y3 y4 y5 y6 y7 y8 y9 y10 y11 y12 y13 y14 y15 y16 y17 y18 y19 y20 y21 y22 y23 y24 y25 y26 y27 y28 y29 y30 y31 y32 y33 y34 y35))
 | 0 => fun _ _ _ _ _ _ _ _ _ _ _ _ _ _ _ _ _ _ _ _ _ _ _ _ _ _ _ _ _ _ _ _ _ _ _ _ r h => by simp [api_NetworkPolicy_26_c19.l0] at h
 | k + 1 => by
  have ih0 := api_NetworkPolicy_26_c19.mono_l k
  ·intro y0 y1 y2 y3 y4 y5 y6 y7 y8 y9 y10 y11 y12 y13 y14 y15 y16 y17 y18 y19 y20 y21 y22 y23 y24 y25 y26 y27 y28 y29 y30 y31 y32 y33 y34 y35
   unfold api_NetworkPolicy_26_c19.l0
   repeat' first
   | (with_reducible exact ih0 _ _ _ _ _ _ _ _ _ _ _ _ _ _ _ _ _ _ _ _ _ _ _ _ _ _ _ _ _ _ _ _ _ _ _ _)
   | (with_reducible exact netpolicy_Isolated_1.mono _ _ _ _ _ _ _ _ _ _ _ _ _ _ _ _ _ _ _ _ _ _ _ _ _ _ _ _ _ _ _ _ _ _ _ _ _ _ _ _ _ _ _ _ _ _ _ _ _ _ _)
   | (with_reducible exact LeO.refl _)
   | (with_reducible exact LeO.none _)
   | (with_reducible refine LeO.ite ?_ ?_)
   | (with_reducible refine LeO.bind ?_ (fun _ => ?_))
   | exact ih0 _ _ _ _ _ _ _ _ _ _ _ _ _ _ _ _ _ _ _ _ _ _ _ _ _ _ _ _ _ _ _ _ _ _ _ _
   | exact netpolicy_Isolated_1.mono _ _ _ _ _ _ _ _ _ _ _ _ _ _ _ _ _ _ _ _ _ _ _ _ _ _ _ _ _ _ _ _ _ _ _ _ _ _ _ _ _ _ _ _ _ _ _ _ _ _ _
   | exact LeO.none _
   | refine LeO.ite ?_ ?_
   | refine LeO.bind ?_ (fun _ => ?_)
theorem api_NetworkPolicy_26_c19.mono : ∀ a0 a1 a2 a3 a4 a5 a6 a7 a8 a9 a10 a11 a12 a13 a14 a15 a16 a17 a18 a19 a20 a21 a22 a23 a24 a25 a26 a27 a28 a29 a30 a31 a32 a33 k, LeO (api_NetworkPolicy_26_c19.f k a0 a1 a2 a3 a4 a5 a6 a7 a8 a9 a10 a11 a12 a13 a14 a15 a16 a17 a18 a19 a20 a21 a22 a23 a24 a25 a26 a27 a28 a29 a30 a31 a32 a33) (api_NetworkPolicy_26_c19.f (k + 1) a0 a1 a2 a3 a4 a5 a6 a7 a8 a9 a10 a11 a12 a13 a14 a15 a16 a17 a18 a19 a20 a21 a22 a23 a24 a25 a26 a27 a28 a29 a30 a31 a32 a33) := by
 intro a0 a1 a2 a3 a4 a5 a6 a7 a8 a9 a10 a11 a12 a13 a14 a15 a16 a17 a18 a19 a20 a21 a22 a23 a24 a25 a26 a27 a28 a29 a30 a31 a32 a33 k
 have ih0 := api_NetworkPolicy_26_c19.mono_l k
 unfold api_NetworkPolicy_26_c19.f
 repeat' first
   | (with_reducible exact ih0 _ _ _ _ _ _ _ _ _ _ _ _ _ _ _ _ _ _ _ _ _ _ _ _ _ _ _ _ _ _ _ _ _ _ _ _)
   | (with_reducible exact netpolicy_Isolated_1.mono _ _ _ _ _ _ _ _ _ _ _ _ _ _ _ _ _ _ _ _ _ _ _ _ _ _ _ _ _ _ _ _ _ _ _ _ _ _ _ _ _ _ _ _ _ _ _ _ _ _ _)
   | (with_reducible exact LeO.refl _)
   | (with_reducible exact LeO.none _)
   | (with_reducible refine LeO.ite ?_ ?_)
   | (with_reducible refine LeO.bind ?_ (fun _ => ?_))
   | exact ih0 _ _ _ _ _ _ _ _ _ _ _ _ _ _ _ _ _ _ _ _ _ _ _ _ _ _ _ _ _ _ _ _ _ _ _ _
   | exact netpolicy_Isolated_1.mono _ _ _ _ _ _ _ _ _ _ _ _ _ _ _ _ _ _ _ _ _ _ _ _ _ _ _ _ _ _ _ _ _ _ _ _ _ _ _ _ _ _ _ _ _ _ _ _ _ _ _
   | exact LeO.none _
   | refine LeO.ite ?_ ?_
   | refine LeO.bind ?_ (fun _ => ?_)
set_option maxHeartbeats 8000000 in
set_option maxRecDepth 100000 in
theorem api_NetworkPolicy_26_c19.calls (k : Nat) (A0 : Option Addr) (c0 : Nat) (l0 : List (S54)) (g200_ : Nat) (g201_ : Nat) (a200_0 : ByteArray) (a200_1 : ByteArray) (a200_2 : ByteArray) (a200_3 : Int) (a200_4 : Int) (a200_5 : Int) (a200_6 : Int) (a200_7 : Bool) (a200_8 : Int) (A200_9 : Option Addr) (c200_9 : Nat) (l200_9 : List (S72)) (A200_10 : Option Addr) (c200_10 : Nat) (l200_10 : List (S110)) (A200_11 : Option Addr) (c200_11 : Nat) (l200_11 : List ByteArray) (A200_12 : Option Addr) (c200_12 : Nat) (l200_12 : List (S112)) (a200_13 : ByteArray) (a200_14 : Int) (a200_15 : Int) (a200_16 : Int) (A200_17 : Option Addr) (c200_17 : Nat) (l200_17 : List (S117)) (A200_18 : Option Addr) (c200_18 : Nat) (l200_18 : List (S74)) (A200_19 : Option Addr) (c200_19 : Nat) (l200_19 : List (S119)) (A200_20 : Option Addr) (c200_20 : Nat) (l200_20 : List (S121)) (A200_21 : Option Addr) (c200_21 : Nat) (l200_21 : List (S123)) (A200_22 : Option Addr) (c200_22 : Nat) (l200_22 : List (S125)) (a200_23 : Int) (a200_24 : Bool) (a200_25 : Int) (a200_26 : Int) (a200_27 : Int) (A200_28 : Option Addr) (c200_28 : Nat) (l200_28 : List (S127)) (a200_29 : Int) (a200_30 : ByteArray) (a200_31 : ByteArray) (a201 : Bool) (r : Int) (w : World) (hr0 : Kd.C k54 w A0 l0.length l0) (hc0 : l0.length ≤ c0) (hr200_9 : Kd.C k72 w A200_9 l200_9.length l200_9) (hc200_9 : l200_9.length ≤ c200_9) (hr200_10 : Kd.C k110 w A200_10 l200_10.length l200_10) (hc200_10 : l200_10.length ≤ c200_10) (hr200_11 : Kd.C Kd.string w A200_11 l200_11.length l200_11) (hc200_11 : l200_11.length ≤ c200_11) (hr200_12 : Kd.C k112 w A200_12 l200_12.length l200_12) (hc200_12 : l200_12.length ≤ c200_12) (hr200_17 : Kd.C k117 w A200_17 l200_17.length l200_17) (hc200_17 : l200_17.length ≤ c200_17) (hr200_18 : Kd.C k74 w A200_18 l200_18.length l200_18) (hc200_18 : l200_18.length ≤ c200_18) (hr200_19 : Kd.C k119 w A200_19 l200_19.length l200_19) (hc200_19 : l200_19.length ≤ c200_19) (hr200_20 : Kd.C k121 w A200_20 l200_20.length l200_20) (hc200_20 : l200_20.length ≤ c200_20) (hr200_21 : Kd.C k123 w A200_21 l200_21.length l200_21) (hc200_21 : l200_21.length ≤ c200_21) (hr200_22 : Kd.C k125 w A200_22 l200_22.length l200_22) (hc200_22 : l200_22.length ≤ c200_22) (hr200_28 : Kd.C k127 w A200_28 l200_28.length l200_28) (hc200_28 : l200_28.length ≤ c200_28) (hbx200 : w.heap[g200_]? = some (.cells #[.string a200_0, .string a200_1, .string a200_2, .int .i64 a200_3, .int .i64 a200_4, .int .i64 a200_5, .int .i64 a200_6, .bool a200_7, .int .i64 a200_8, .slice A200_9 l200_9.length c200_9, .slice A200_10 l200_10.length c200_10, .slice A200_11 l200_11.length c200_11, .slice A200_12 l200_12.length c200_12, .string a200_13, .int .i64 a200_14, .int .i64 a200_15, .int .i64 a200_16, .slice A200_17 l200_17.length c200_17, .slice A200_18 l200_18.length c200_18, .slice A200_19 l200_19.length c200_19, .slice A200_20 l200_20.length c200_20, .slice A200_21 l200_21.length c200_21, .slice A200_22 l200_22.length c200_22, .int .i64 a200_23, .bool a200_24, .int .i64 a200_25, .int .i64 a200_26, .int .i64 a200_27, .slice A200_28 l200_28.length c200_28, .int .i64 a200_29, .string a200_30, .string a200_31] 41 (0, 0))) (hbx201 : w.heap[g201_]? = some (.cells #[.bool a201] 4 (0, 0))) (hbn200_201 : g200_ ≠ g201_) (h : api_NetworkPolicy_26_c19.f k l0 a200_0 a200_1 a200_2 a200_3 a200_4 a200_5 a200_6 a200_7 a200_8 l200_9 l200_10 l200_11 l200_12 a200_13 a200_14 a200_15 a200_16 l200_17 l200_18 l200_19 l200_20 l200_21 l200_22 a200_23 a200_24 a200_25 a200_26 a200_27 l200_28 a200_29 a200_30 a200_31 a201 = some r) :
  Calls Try.prog 26 #[.slice A0 l0.length c0, .func (.func 19) #[] #[.pointer (some ⟨g200_, 0, none⟩), .pointer (some ⟨g201_, 0, none⟩)]] w fun e w' => e = .returned (.int .i64 r) ∧ Below w.heap.size w w' := by
 have hu54 := Try.underlying54
 have HR0 := s_a hr0
 have HC0 := s_a hc0
 clear hr0 hc0
 have HR200_9 := s_a hr200_9
 have HC200_9 := s_a hc200_9
 clear hr200_9 hc200_9
 have HR200_10 := s_a hr200_10
 have HC200_10 := s_a hc200_10
 clear hr200_10 hc200_10
 have HR200_11 := s_a hr200_11
 have HC200_11 := s_a hc200_11
 clear hr200_11 hc200_11
 have HR200_12 := s_a hr200_12
 have HC200_12 := s_a hc200_12
 clear hr200_12 hc200_12
 have HR200_17 := s_a hr200_17
 have HC200_17 := s_a hc200_17
 clear hr200_17 hc200_17
 have HR200_18 := s_a hr200_18
 have HC200_18 := s_a hc200_18
 clear hr200_18 hc200_18
 have HR200_19 := s_a hr200_19
 have HC200_19 := s_a hc200_19
 clear hr200_19 hc200_19
 have HR200_20 := s_a hr200_20
 have HC200_20 := s_a hc200_20
 clear hr200_20 hc200_20
 have HR200_21 := s_a hr200_21
 have HC200_21 := s_a hc200_21
 clear hr200_21 hc200_21
 have HR200_22 := s_a hr200_22
 have HC200_22 := s_a hc200_22
 clear hr200_22 hc200_22
 have HR200_28 := s_a hr200_28
 have HC200_28 := s_a hc200_28
 clear hr200_28 hc200_28
 have BK126 := s_a hbx200
 clear hbx200
 have BK127 := s_a hbx201
 clear hbx201
 have NB126_127 := s_a hbn200_201
 have NB127_126 := s_a (Ne.symm hbn200_201)
 clear hbn200_201
 have HB := s_a (Below.refl w.heap.size w)
 have H := h; unfold api_NetworkPolicy_26_c19.f at H
 clear h
 have H' := s_a H
 clear H
 go_enter Try.func26, Try.ntmps26
 go_wp2
 go_loopg [8] k (fun kq v8 w' => ∃ (x8_1 : Int), v8 = .int .i64 x8_1 ∧ Aside0 (api_NetworkPolicy_26_c19.l0 kq l0 (l0.length : Int) x8_1 a200_0 a200_1 a200_2 a200_3 a200_4 a200_5 a200_6 a200_7 a200_8 l200_9 l200_10 l200_11 l200_12 a200_13 a200_14 a200_15 a200_16 l200_17 l200_18 l200_19 l200_20 l200_21 l200_22 a200_23 a200_24 a200_25 a200_26 a200_27 l200_28 a200_29 a200_30 a200_31 a201 = some r) ∧ Aside0 (kq ≤ k) ∧ Aside0 (w'.heap[g200_]? = some (.cells #[.string a200_0, .string a200_1, .string a200_2, .int .i64 a200_3, .int .i64 a200_4, .int .i64 a200_5, .int .i64 a200_6, .bool a200_7, .int .i64 a200_8, (.slice A200_9 l200_9.length c200_9), (.slice A200_10 l200_10.length c200_10), (.slice A200_11 l200_11.length c200_11), (.slice A200_12 l200_12.length c200_12), .string a200_13, .int .i64 a200_14, .int .i64 a200_15, .int .i64 a200_16, (.slice A200_17 l200_17.length c200_17), (.slice A200_18 l200_18.length c200_18), (.slice A200_19 l200_19.length c200_19), (.slice A200_20 l200_20.length c200_20), (.slice A200_21 l200_21.length c200_21), (.slice A200_22 l200_22.length c200_22), .int .i64 a200_23, .bool a200_24, .int .i64 a200_25, .int .i64 a200_26, .int .i64 a200_27, (.slice A200_28 l200_28.length c200_28), .int .i64 a200_29, .string a200_30, .string a200_31] 41 (0, 0))) ∧ Aside0 (w'.heap[g201_]? = some (.cells #[.bool a201] 4 (0, 0))) ∧ Aside0 (Below w.heap.size w w'))
 case atStart => exact ⟨(0), (by first | rfl | (simp; done) | (simp [*]; done)), H', ⟨Nat.le_refl _⟩, ⟨by exact s_k BK126.out⟩, ⟨by exact s_k BK127.out⟩, ⟨by exact s_b HB.out⟩⟩
 case round =>
  clear H'
  try clear c1
  try clear c2
  try clear p2
  obtain ⟨x8_1, rfl, HA, HK1, BK126, BK127, HB⟩ := hrel
  cases gk with
  | zero => exact absurd HA.out (by simp [api_NetworkPolicy_26_c19.l0])
  | succ k1 =>
   have H := HA.out
   clear HA
   simp only [api_NetworkPolicy_26_c19.l0] at H
   by_cases c3 : x8_1 < (l0.length : Int)
   ·rw [if_pos c3] at H
    have c3b0 : decide (x8_1 < (l0.length : Int)) = true := decide_eq_true c3
    clear c3
    by_cases c4 : 0 ≤ x8_1
    ·rw [if_pos c4] at H
     have c4b0 : decide (0 ≤ x8_1) = true := decide_eq_true c4
     clear c4
     by_cases c5 : x8_1 < (l0.length : Int)
     ·rw [if_pos c5] at H
      have c5b0 : decide (x8_1 < (l0.length : Int)) = true := decide_eq_true c5
      clear c5
      replace H := Option.bind_eq_some_iff.mp H
      obtain ⟨t129, A60, H⟩ := H
      (try dsimp only at H)
      have A6 := s_a A60
      clear A60
      by_cases c7 : t129 = true
      ·subst c7
       (try rw [if_pos rfl] at H)
       obtain rfl := Option.some.inj H
       have p128 : 0 ≤ (x8_1 : Int) := of_decide_eq_true (by first | (with_reducible assumption) | assumption)
       have q128 : x8_1 < (l0.length : Int) := of_decide_eq_true (by first | (with_reducible assumption) | assumption)
       obtain ⟨ad128, A128_9, c128_9, A128_10, c128_10, A128_11, c128_11, A128_12, c128_12, A128_13, c128_13, A128_16, c128_16, e128, hx128_0, hx128_1, hx128_2, hx128_3, hx128_4, hx128_5, hx128_6, hx128_7, hx128_8, hx128_9, hx128_10, hx128_11, hx128_12, hx128_13, hx128_14, hx128_15, hx128_16, hl128_9, hi128_9, hl128_10, hi128_10, hl128_11, hi128_11, hl128_12, hi128_12, hl128_13, hi128_13, hl128_16, hi128_16⟩ := at_T54 HR0.out x8_1 p128 q128
       cases e128
       replace hx128_0 := s_m HB.out hx128_0
       replace hx128_1 := s_m HB.out hx128_1
       replace hx128_2 := s_m HB.out hx128_2
       replace hx128_3 := s_m HB.out hx128_3
       replace hx128_4 := s_m HB.out hx128_4
       replace hx128_5 := s_m HB.out hx128_5
       replace hx128_6 := s_m HB.out hx128_6
       replace hx128_7 := s_m HB.out hx128_7
       replace hx128_8 := s_m HB.out hx128_8
       replace hx128_9 := s_m HB.out hx128_9
       replace hx128_10 := s_m HB.out hx128_10
       replace hx128_11 := s_m HB.out hx128_11
       replace hx128_12 := s_m HB.out hx128_12
       replace hx128_13 := s_m HB.out hx128_13
       replace hx128_14 := s_m HB.out hx128_14
       replace hx128_15 := s_m HB.out hx128_15
       replace hx128_16 := s_m HB.out hx128_16
       have HR128_9 := s_a hi128_9
       have HC128_9 := s_a hl128_9
       clear hi128_9 hl128_9
       have HR128_10 := s_a hi128_10
       have HC128_10 := s_a hl128_10
       clear hi128_10 hl128_10
       have HR128_11 := s_a hi128_11
       have HC128_11 := s_a hl128_11
       clear hi128_11 hl128_11
       have HR128_12 := s_a hi128_12
       have HC128_12 := s_a hl128_12
       clear hi128_12 hl128_12
       have HR128_13 := s_a hi128_13
       have HC128_13 := s_a hl128_13
       clear hi128_13 hl128_13
       have HR128_16 := s_a hi128_16
       have HC128_16 := s_a hl128_16
       clear hi128_16 hl128_16
       replace p128 := eq_true p128
       replace q128 := eq_true q128
       go_wp2_with (first | ((with_reducible refine gate_dst (N := 15) rfl ?_); refine load_at rfl 54 (.tmp 14) rfl _ rfl _ _ (cells_at hx128_0 (s_cc hx128_1 (s_cc hx128_2 (s_cc hx128_3 (s_cc hx128_4 (s_cc hx128_5 (s_cc hx128_6 (s_cc hx128_7 (s_cc hx128_8 (s_cc hx128_9 (s_cc hx128_10 (s_cc hx128_11 (s_cc hx128_12 (s_cc hx128_13 (s_cc hx128_14 (s_cc hx128_15 (s_cc hx128_16 s_cn))))))))))))))))) Try.underlying54 rfl sz54 ?_) | (go_at_call 19; (with_reducible refine (netpolicy_Isolated_1.calls k1 _ _ _ _ _ _ _ _ _ _ _ _ _ _ _ _ _ _ _ _ _ _ _ _ _ _ _ _ _ g200_ a200_0 a200_1 a200_2 a200_3 a200_4 a200_5 a200_6 a200_7 a200_8 A200_9 c200_9 l200_9 A200_10 c200_10 l200_10 A200_11 c200_11 l200_11 A200_12 c200_12 l200_12 a200_13 a200_14 a200_15 a200_16 A200_17 c200_17 l200_17 A200_18 c200_18 l200_18 A200_19 c200_19 l200_19 A200_20 c200_20 l200_20 A200_21 c200_21 l200_21 A200_22 c200_22 l200_22 a200_23 a200_24 a200_25 a200_26 a200_27 A200_28 c200_28 l200_28 a200_29 a200_30 a200_31 g201_ a201 _ _ ?side1 ?side2 ?side3 ?side4 ?side5 ?side6 ?side7 ?side8 ?side9 ?side10 ?side11 ?side12 ?side13 ?side14 ?side15 ?side16 ?side17 ?side18 ?side19 ?side20 ?side21 ?side22 ?side23 ?side24 ?side25 ?side26 ?side27 ?side28 ?side29 ?side30 ?side31 ?side32 ?side33 ?side34 ?side35 ?side36 ?side37 A6.out).mono ?_); (case side1 => exact s_D HR128_9.out HB.out); (case side2 => exact HC128_9.out); (case side3 => exact s_D HR128_10.out HB.out); (case side4 => exact HC128_10.out); (case side5 => exact s_D HR128_11.out HB.out); (case side6 => exact HC128_11.out); (case side7 => exact s_D HR128_12.out HB.out); (case side8 => exact HC128_12.out); (case side9 => exact s_D HR128_13.out HB.out); (case side10 => exact HC128_13.out); (case side11 => exact s_D HR128_16.out HB.out); (case side12 => exact HC128_16.out); (case side13 => exact s_D HR200_9.out HB.out); (case side14 => exact HC200_9.out); (case side15 => exact s_D HR200_10.out HB.out); (case side16 => exact HC200_10.out); (case side17 => exact s_D HR200_11.out HB.out); (case side18 => exact HC200_11.out); (case side19 => exact s_D HR200_12.out HB.out); (case side20 => exact HC200_12.out); (case side21 => exact s_D HR200_17.out HB.out); (case side22 => exact HC200_17.out); (case side23 => exact s_D HR200_18.out HB.out); (case side24 => exact HC200_18.out); (case side25 => exact s_D HR200_19.out HB.out); (case side26 => exact HC200_19.out); (case side27 => exact s_D HR200_20.out HB.out); (case side28 => exact HC200_20.out); (case side29 => exact s_D HR200_21.out HB.out); (case side30 => exact HC200_21.out); (case side31 => exact s_D HR200_22.out HB.out); (case side32 => exact HC200_22.out); (case side33 => exact s_D HR200_28.out HB.out); (case side34 => exact HC200_28.out); (case side35 => exact (by exact s_k BK126.out)); (case side36 => exact (by exact s_k BK127.out)); (case side37 => exact NB126_127.out); rintro e w8 ⟨rfl, hb⟩; (try clear A6); replace BK126 := s_a (blk_below (s_k BK126.out) hb); replace BK127 := s_a (blk_below (s_k BK127.out) hb); replace HB := s_a (below_step (by exact s_b HB.out) hb); (try clear hb)))
       go_ret
       exact ⟨by first | rfl | (simp [errW_none, errW_some] <;> rfl) | (simp [*, errW_none, errW_some] <;> rfl), by exact s_b HB.out⟩
      ·replace c7 := Bool.eq_false_iff.mpr c7
       subst c7
       (try rw [if_neg (show ¬ (false = true) by decide)] at H)
       have H' := s_a H
       clear H
       have p128 : 0 ≤ (x8_1 : Int) := of_decide_eq_true (by first | (with_reducible assumption) | assumption)
       have q128 : x8_1 < (l0.length : Int) := of_decide_eq_true (by first | (with_reducible assumption) | assumption)
       obtain ⟨ad128, A128_9, c128_9, A128_10, c128_10, A128_11, c128_11, A128_12, c128_12, A128_13, c128_13, A128_16, c128_16, e128, hx128_0, hx128_1, hx128_2, hx128_3, hx128_4, hx128_5, hx128_6, hx128_7, hx128_8, hx128_9, hx128_10, hx128_11, hx128_12, hx128_13, hx128_14, hx128_15, hx128_16, hl128_9, hi128_9, hl128_10, hi128_10, hl128_11, hi128_11, hl128_12, hi128_12, hl128_13, hi128_13, hl128_16, hi128_16⟩ := at_T54 HR0.out x8_1 p128 q128
       cases e128
       replace hx128_0 := s_m HB.out hx128_0
       replace hx128_1 := s_m HB.out hx128_1
       replace hx128_2 := s_m HB.out hx128_2
       replace hx128_3 := s_m HB.out hx128_3
       replace hx128_4 := s_m HB.out hx128_4
       replace hx128_5 := s_m HB.out hx128_5
       replace hx128_6 := s_m HB.out hx128_6
       replace hx128_7 := s_m HB.out hx128_7
       replace hx128_8 := s_m HB.out hx128_8
       replace hx128_9 := s_m HB.out hx128_9
       replace hx128_10 := s_m HB.out hx128_10
       replace hx128_11 := s_m HB.out hx128_11
       replace hx128_12 := s_m HB.out hx128_12
       replace hx128_13 := s_m HB.out hx128_13
       replace hx128_14 := s_m HB.out hx128_14
       replace hx128_15 := s_m HB.out hx128_15
       replace hx128_16 := s_m HB.out hx128_16
       have HR128_9 := s_a hi128_9
       have HC128_9 := s_a hl128_9
       clear hi128_9 hl128_9
       have HR128_10 := s_a hi128_10
       have HC128_10 := s_a hl128_10
       clear hi128_10 hl128_10
       have HR128_11 := s_a hi128_11
       have HC128_11 := s_a hl128_11
       clear hi128_11 hl128_11
       have HR128_12 := s_a hi128_12
       have HC128_12 := s_a hl128_12
       clear hi128_12 hl128_12
       have HR128_13 := s_a hi128_13
       have HC128_13 := s_a hl128_13
       clear hi128_13 hl128_13
       have HR128_16 := s_a hi128_16
       have HC128_16 := s_a hl128_16
       clear hi128_16 hl128_16
       replace p128 := eq_true p128
       replace q128 := eq_true q128
       go_wp2_with (first | ((with_reducible refine gate_dst (N := 15) rfl ?_); refine load_at rfl 54 (.tmp 14) rfl _ rfl _ _ (cells_at hx128_0 (s_cc hx128_1 (s_cc hx128_2 (s_cc hx128_3 (s_cc hx128_4 (s_cc hx128_5 (s_cc hx128_6 (s_cc hx128_7 (s_cc hx128_8 (s_cc hx128_9 (s_cc hx128_10 (s_cc hx128_11 (s_cc hx128_12 (s_cc hx128_13 (s_cc hx128_14 (s_cc hx128_15 (s_cc hx128_16 s_cn))))))))))))))))) Try.underlying54 rfl sz54 ?_) | (go_at_call 19; (with_reducible refine (netpolicy_Isolated_1.calls k1 _ _ _ _ _ _ _ _ _ _ _ _ _ _ _ _ _ _ _ _ _ _ _ _ _ _ _ _ _ g200_ a200_0 a200_1 a200_2 a200_3 a200_4 a200_5 a200_6 a200_7 a200_8 A200_9 c200_9 l200_9 A200_10 c200_10 l200_10 A200_11 c200_11 l200_11 A200_12 c200_12 l200_12 a200_13 a200_14 a200_15 a200_16 A200_17 c200_17 l200_17 A200_18 c200_18 l200_18 A200_19 c200_19 l200_19 A200_20 c200_20 l200_20 A200_21 c200_21 l200_21 A200_22 c200_22 l200_22 a200_23 a200_24 a200_25 a200_26 a200_27 A200_28 c200_28 l200_28 a200_29 a200_30 a200_31 g201_ a201 _ _ ?side1 ?side2 ?side3 ?side4 ?side5 ?side6 ?side7 ?side8 ?side9 ?side10 ?side11 ?side12 ?side13 ?side14 ?side15 ?side16 ?side17 ?side18 ?side19 ?side20 ?side21 ?side22 ?side23 ?side24 ?side25 ?side26 ?side27 ?side28 ?side29 ?side30 ?side31 ?side32 ?side33 ?side34 ?side35 ?side36 ?side37 A6.out).mono ?_); (case side1 => exact s_D HR128_9.out HB.out); (case side2 => exact HC128_9.out); (case side3 => exact s_D HR128_10.out HB.out); (case side4 => exact HC128_10.out); (case side5 => exact s_D HR128_11.out HB.out); (case side6 => exact HC128_11.out); (case side7 => exact s_D HR128_12.out HB.out); (case side8 => exact HC128_12.out); (case side9 => exact s_D HR128_13.out HB.out); (case side10 => exact HC128_13.out); (case side11 => exact s_D HR128_16.out HB.out); (case side12 => exact HC128_16.out); (case side13 => exact s_D HR200_9.out HB.out); (case side14 => exact HC200_9.out); (case side15 => exact s_D HR200_10.out HB.out); (case side16 => exact HC200_10.out); (case side17 => exact s_D HR200_11.out HB.out); (case side18 => exact HC200_11.out); (case side19 => exact s_D HR200_12.out HB.out); (case side20 => exact HC200_12.out); (case side21 => exact s_D HR200_17.out HB.out); (case side22 => exact HC200_17.out); (case side23 => exact s_D HR200_18.out HB.out); (case side24 => exact HC200_18.out); (case side25 => exact s_D HR200_19.out HB.out); (case side26 => exact HC200_19.out); (case side27 => exact s_D HR200_20.out HB.out); (case side28 => exact HC200_20.out); (case side29 => exact s_D HR200_21.out HB.out); (case side30 => exact HC200_21.out); (case side31 => exact s_D HR200_22.out HB.out); (case side32 => exact HC200_22.out); (case side33 => exact s_D HR200_28.out HB.out); (case side34 => exact HC200_28.out); (case side35 => exact (by exact s_k BK126.out)); (case side36 => exact (by exact s_k BK127.out)); (case side37 => exact NB126_127.out); rintro e w9 ⟨rfl, hb⟩; (try clear A6); replace BK126 := s_a (blk_below (s_k BK126.out) hb); replace BK127 := s_a (blk_below (s_k BK127.out) hb); replace HB := s_a (below_step (by exact s_b HB.out) hb); (try clear hb)))
       go_roundg k1
       case measure => have := HK1.out; omega
       case rel => exact ⟨(wrap64 (x8_1 + 1)), (by first | rfl | (simp; done) | (simp [*]; done)), H', ⟨by have := HK1.out; omega⟩, ⟨by exact s_k BK126.out⟩, ⟨by exact s_k BK127.out⟩, ⟨by exact s_b HB.out⟩⟩
     ·rw [if_neg c5] at H
      exact absurd H (by simp)
    ·rw [if_neg c4] at H
     exact absurd H (by simp)
   ·rw [if_neg c3] at H
    have c3b0 : decide (x8_1 < (l0.length : Int)) = false := decide_eq_false c3
    clear c3
    obtain rfl := Option.some.inj H
    go_wp2
    go_ret
    exact ⟨by first | rfl | (simp [errW_none, errW_some] <;> rfl) | (simp [*, errW_none, errW_some] <;> rfl), by exact s_b HB.out⟩
def api_NetworkPolicy_18_c19.f (k : Nat) (l0 : List (S54)) (a200_0 : ByteArray) (a200_1 : ByteArray) (a200_2 : ByteArray) (a200_3 : Int) (a200_4 : Int) (a200_5 : Int) (a200_6 : Int) (a200_7 : Bool) (a200_8 : Int) (l200_9 : List (S72)) (l200_10 : List (S110)) (l200_11 : List ByteArray) (l200_12 : List (S112)) (a200_13 : ByteArray) (a200_14 : Int) (a200_15 : Int) (a200_16 : Int) (l200_17 : List (S117)) (l200_18 : List (S74)) (l200_19 : List (S119)) (l200_20 : List (S121)) (l200_21 : List (S123)) (l200_22 : List (S125)) (a200_23 : Int) (a200_24 : Bool) (a200_25 : Int) (a200_26 : Int) (a200_27 : Int) (l200_28 : List (S127)) (a200_29 : Int) (a200_30 : ByteArray) (a200_31 : ByteArray) (a201 : Bool) : Option (Bool) := (api_NetworkPolicy_26_c19.f k l0 a200_0 a200_1 a200_2 a200_3 a200_4 a200_5 a200_6 a200_7 a200_8 l200_9 l200_10 l200_11 l200_12 a200_13 a200_14 a200_15 a200_16 l200_17 l200_18 l200_19 l200_20 l200_21 l200_22 a200_23 a200_24 a200_25 a200_26 a200_27 l200_28 a200_29 a200_30 a200_31 a201).bind fun t132 => (some (decide (t132 ≥ 0)))
theorem api_NetworkPolicy_18_c19.mono : ∀ a0 a1 a2 a3 a4 a5 a6 a7 a8 a9 a10 a11 a12 a13 a14 a15 a16 a17 a18 a19 a20 a21 a22 a23 a24 a25 a26 a27 a28 a29 a30 a31 a32 a33 k, LeO (api_NetworkPolicy_18_c19.f k a0 a1 a2 a3 a4 a5 a6 a7 a8 a9 a10 a11 a12 a13 a14 a15 a16 a17 a18 a19 a20 a21 a22 a23 a24 a25 a26 a27 a28 a29 a30 a31 a32 a33) (api_NetworkPolicy_18_c19.f (k + 1) a0 a1 a2 a3 a4 a5 a6 a7 a8 a9 a10 a11 a12 a13 a14 a15 a16 a17 a18 a19 a20 a21 a22 a23 a24 a25 a26 a27 a28 a29 a30 a31 a32 a33) := by
 intro a0 a1 a2 a3 a4 a5 a6 a7 a8 a9 a10 a11 a12 a13 a14 a15 a16 a17 a18 a19 a20 a21 a22 a23 a24 a25 a26 a27 a28 a29 a30 a31 a32 a33 k
 unfold api_NetworkPolicy_18_c19.f
 repeat' first
   | (with_reducible exact api_NetworkPolicy_26_c19.mono _ _ _ _ _ _ _ _ _ _ _ _ _ _ _ _ _ _ _ _ _ _ _ _ _ _ _ _ _ _ _ _ _ _ _)
   | (with_reducible exact LeO.refl _)
   | (with_reducible exact LeO.none _)
   | (with_reducible refine LeO.ite ?_ ?_)
   | (with_reducible refine LeO.bind ?_ (fun _ => ?_))
   | exact api_NetworkPolicy_26_c19.mono _ _ _ _ _ _ _ _ _ _ _ _ _ _ _ _ _ _ _ _ _ _ _ _ _ _ _ _ _ _ _ _ _ _ _
   | exact LeO.none _
   | refine LeO.ite ?_ ?_
   | refine LeO.bind ?_ (fun _ => ?_)
set_option maxHeartbeats 8000000 in
set_option maxRecDepth 100000 in
theorem api_NetworkPolicy_18_c19.calls (k : Nat) (A0 : Option Addr) (c0 : Nat) (l0 : List (S54)) (g200_ : Nat) (g201_ : Nat) (a200_0 : ByteArray) (a200_1 : ByteArray) (a200_2 : ByteArray) (a200_3 : Int) (a200_4 : Int) (a200_5 : Int) (a200_6 : Int) (a200_7 : Bool) (a200_8 : Int) (A200_9 : Option Addr) (c200_9 : Nat) (l200_9 : List (S72)) (A200_10 : Option Addr) (c200_10 : Nat) (l200_10 : List (S110)) (A200_11 : Option Addr) (c200_11 : Nat) (l200_11 : List ByteArray) (A200_12 : Option Addr) (c200_12 : Nat) (l200_12 : List (S112)) (a200_13 : ByteArray) (a200_14 : Int) (a200_15 : Int) (a200_16 : Int) (A200_17 : Option Addr) (c200_17 : Nat) (l200_17 : List (S117)) (A200_18 : Option Addr) (c200_18 : Nat) (l200_18 : List (S74)) (A200_19 : Option Addr) (c200_19 : Nat) (l200_19 : List (S119)) (A200_20 : Option Addr) (c200_20 : Nat) (l200_20 : List (S121)) (A200_21 : Option Addr) (c200_21 : Nat) (l200_21 : List (S123)) (A200_22 : Option Addr) (c200_22 : Nat) (l200_22 : List (S125)) (a200_23 : Int) (a200_24 : Bool) (a200_25 : Int) (a200_26 : Int) (a200_27 : Int) (A200_28 : Option Addr) (c200_28 : Nat) (l200_28 : List (S127)) (a200_29 : Int) (a200_30 : ByteArray) (a200_31 : ByteArray) (a201 : Bool) (r : Bool) (w : World) (hr0 : Kd.C k54 w A0 l0.length l0) (hc0 : l0.length ≤ c0) (hr200_9 : Kd.C k72 w A200_9 l200_9.length l200_9) (hc200_9 : l200_9.length ≤ c200_9) (hr200_10 : Kd.C k110 w A200_10 l200_10.length l200_10) (hc200_10 : l200_10.length ≤ c200_10) (hr200_11 : Kd.C Kd.string w A200_11 l200_11.length l200_11) (hc200_11 : l200_11.length ≤ c200_11) (hr200_12 : Kd.C k112 w A200_12 l200_12.length l200_12) (hc200_12 : l200_12.length ≤ c200_12) (hr200_17 : Kd.C k117 w A200_17 l200_17.length l200_17) (hc200_17 : l200_17.length ≤ c200_17) (hr200_18 : Kd.C k74 w A200_18 l200_18.length l200_18) (hc200_18 : l200_18.length ≤ c200_18) (hr200_19 : Kd.C k119 w A200_19 l200_19.length l200_19) (hc200_19 : l200_19.length ≤ c200_19) (hr200_20 : Kd.C k121 w A200_20 l200_20.length l200_20) (hc200_20 : l200_20.length ≤ c200_20) (hr200_21 : Kd.C k123 w A200_21 l200_21.length l200_21) (hc200_21 : l200_21.length ≤ c200_21) (hr200_22 : Kd.C k125 w A200_22 l200_22.length l200_22) (hc200_22 : l200_22.length ≤ c200_22) (hr200_28 : Kd.C k127 w A200_28 l200_28.length l200_28) (hc200_28 : l200_28.length ≤ c200_28) (hbx200 : w.heap[g200_]? = some (.cells #[.string a200_0, .string a200_1, .string a200_2, .int .i64 a200_3, .int .i64 a200_4, .int .i64 a200_5, .int .i64 a200_6, .bool a200_7, .int .i64 a200_8, .slice A200_9 l200_9.length c200_9, .slice A200_10 l200_10.length c200_10, .slice A200_11 l200_11.length c200_11, .slice A200_12 l200_12.length c200_12, .string a200_13, .int .i64 a200_14, .int .i64 a200_15, .int .i64 a200_16, .slice A200_17 l200_17.length c200_17, .slice A200_18 l200_18.length c200_18, .slice A200_19 l200_19.length c200_19, .slice A200_20 l200_20.length c200_20, .slice A200_21 l200_21.length c200_21, .slice A200_22 l200_22.length c200_22, .int .i64 a200_23, .bool a200_24, .int .i64 a200_25, .int .i64 a200_26, .int .i64 a200_27, .slice A200_28 l200_28.length c200_28, .int .i64 a200_29, .string a200_30, .string a200_31] 41 (0, 0))) (hbx201 : w.heap[g201_]? = some (.cells #[.bool a201] 4 (0, 0))) (hbn200_201 : g200_ ≠ g201_) (h : api_NetworkPolicy_18_c19.f k l0 a200_0 a200_1 a200_2 a200_3 a200_4 a200_5 a200_6 a200_7 a200_8 l200_9 l200_10 l200_11 l200_12 a200_13 a200_14 a200_15 a200_16 l200_17 l200_18 l200_19 l200_20 l200_21 l200_22 a200_23 a200_24 a200_25 a200_26 a200_27 l200_28 a200_29 a200_30 a200_31 a201 = some r) :
  Calls Try.prog 18 #[.slice A0 l0.length c0, .func (.func 19) #[] #[.pointer (some ⟨g200_, 0, none⟩), .pointer (some ⟨g201_, 0, none⟩)]] w fun e w' => e = .returned (.bool r) ∧ Below w.heap.size w w' := by
 have HR0 := s_a hr0
 have HC0 := s_a hc0
 clear hr0 hc0
 have HR200_9 := s_a hr200_9
 have HC200_9 := s_a hc200_9
 clear hr200_9 hc200_9
 have HR200_10 := s_a hr200_10
 have HC200_10 := s_a hc200_10
 clear hr200_10 hc200_10
 have HR200_11 := s_a hr200_11
 have HC200_11 := s_a hc200_11
 clear hr200_11 hc200_11
 have HR200_12 := s_a hr200_12
 have HC200_12 := s_a hc200_12
 clear hr200_12 hc200_12
 have HR200_17 := s_a hr200_17
 have HC200_17 := s_a hc200_17
 clear hr200_17 hc200_17
 have HR200_18 := s_a hr200_18
 have HC200_18 := s_a hc200_18
 clear hr200_18 hc200_18
 have HR200_19 := s_a hr200_19
 have HC200_19 := s_a hc200_19
 clear hr200_19 hc200_19
 have HR200_20 := s_a hr200_20
 have HC200_20 := s_a hc200_20
 clear hr200_20 hc200_20
 have HR200_21 := s_a hr200_21
 have HC200_21 := s_a hc200_21
 clear hr200_21 hc200_21
 have HR200_22 := s_a hr200_22
 have HC200_22 := s_a hc200_22
 clear hr200_22 hc200_22
 have HR200_28 := s_a hr200_28
 have HC200_28 := s_a hc200_28
 clear hr200_28 hc200_28
 have BK130 := s_a hbx200
 clear hbx200
 have BK131 := s_a hbx201
 clear hbx201
 have NB130_131 := s_a hbn200_201
 have NB131_130 := s_a (Ne.symm hbn200_201)
 clear hbn200_201
 have HB := s_a (Below.refl w.heap.size w)
 have H := h; unfold api_NetworkPolicy_18_c19.f at H
 clear h
 replace H := Option.bind_eq_some_iff.mp H
 obtain ⟨t132, A30, H⟩ := H
 replace H : (some (decide (t132 ≥ 0))) = some r := H
 have A3 := s_a A30
 clear A30
 obtain rfl := Option.some.inj H
 go_enter Try.func18, Try.ntmps18
 go_wp2_with (first | (go_at_call 26; (with_reducible refine (api_NetworkPolicy_26_c19.calls k _ _ _ g200_ g201_ a200_0 a200_1 a200_2 a200_3 a200_4 a200_5 a200_6 a200_7 a200_8 A200_9 c200_9 l200_9 A200_10 c200_10 l200_10 A200_11 c200_11 l200_11 A200_12 c200_12 l200_12 a200_13 a200_14 a200_15 a200_16 A200_17 c200_17 l200_17 A200_18 c200_18 l200_18 A200_19 c200_19 l200_19 A200_20 c200_20 l200_20 A200_21 c200_21 l200_21 A200_22 c200_22 l200_22 a200_23 a200_24 a200_25 a200_26 a200_27 A200_28 c200_28 l200_28 a200_29 a200_30 a200_31 a201 _ _ ?side1 ?side2 ?side3 ?side4 ?side5 ?side6 ?side7 ?side8 ?side9 ?side10 ?side11 ?side12 ?side13 ?side14 ?side15 ?side16 ?side17 ?side18 ?side19 ?side20 ?side21 ?side22 ?side23 ?side24 ?side25 ?side26 ?side27 A3.out).mono ?_); (case side1 => exact s_C HR0.out); (case side2 => exact HC0.out); (case side3 => exact s_C HR200_9.out); (case side4 => exact HC200_9.out); (case side5 => exact s_C HR200_10.out); (case side6 => exact HC200_10.out); (case side7 => exact s_C HR200_11.out); (case side8 => exact HC200_11.out); (case side9 => exact s_C HR200_12.out); (case side10 => exact HC200_12.out); (case side11 => exact s_C HR200_17.out); (case side12 => exact HC200_17.out); (case side13 => exact s_C HR200_18.out); (case side14 => exact HC200_18.out); (case side15 => exact s_C HR200_19.out); (case side16 => exact HC200_19.out); (case side17 => exact s_C HR200_20.out); (case side18 => exact HC200_20.out); (case side19 => exact s_C HR200_21.out); (case side20 => exact HC200_21.out); (case side21 => exact s_C HR200_22.out); (case side22 => exact HC200_22.out); (case side23 => exact s_C HR200_28.out); (case side24 => exact HC200_28.out); (case side25 => exact (by exact s_k BK130.out)); (case side26 => exact (by exact s_k BK131.out)); (case side27 => exact NB130_131.out); rintro e w4 ⟨rfl, hb⟩; (try clear A3); replace BK130 := s_a (blk_below (s_k BK130.out) hb); replace BK131 := s_a (blk_below (s_k BK131.out) hb); replace HB := s_a (below_step (by exact s_b HB.out) hb); (try clear hb)))
 go_ret
 exact ⟨by first | rfl | (simp [errW_none, errW_some] <;> rfl) | (simp [*, errW_none, errW_some] <;> rfl), by exact s_b HB.out⟩
def netpolicy_Isolated.f (k : Nat) (l0 : List (S54)) (a1_0 : ByteArray) (a1_1 : ByteArray) (a1_2 : ByteArray) (a1_3 : Int) (a1_4 : Int) (a1_5 : Int) (a1_6 : Int) (a1_7 : Bool) (a1_8 : Int) (l1_9 : List (S72)) (l1_10 : List (S110)) (l1_11 : List ByteArray) (l1_12 : List (S112)) (a1_13 : ByteArray) (a1_14 : Int) (a1_15 : Int) (a1_16 : Int) (l1_17 : List (S117)) (l1_18 : List (S74)) (l1_19 : List (S119)) (l1_20 : List (S121)) (l1_21 : List (S123)) (l1_22 : List (S125)) (a1_23 : Int) (a1_24 : Bool) (a1_25 : Int) (a1_26 : Int) (a1_27 : Int) (l1_28 : List (S127)) (a1_29 : Int) (a1_30 : ByteArray) (a1_31 : ByteArray) (a2 : Bool) : Option (Bool) := (api_NetworkPolicy_18_c19.f k l0 a1_0 a1_1 a1_2 a1_3 a1_4 a1_5 a1_6 a1_7 a1_8 l1_9 l1_10 l1_11 l1_12 a1_13 a1_14 a1_15 a1_16 l1_17 l1_18 l1_19 l1_20 l1_21 l1_22 a1_23 a1_24 a1_25 a1_26 a1_27 l1_28 a1_29 a1_30 a1_31 a2).bind fun t135 => (some t135)
theorem netpolicy_Isolated.mono : ∀ a0 a1 a2 a3 a4 a5 a6 a7 a8 a9 a10 a11 a12 a13 a14 a15 a16 a17 a18 a19 a20 a21 a22 a23 a24 a25 a26 a27 a28 a29 a30 a31 a32 a33 k, LeO (netpolicy_Isolated.f k a0 a1 a2 a3 a4 a5 a6 a7 a8 a9 a10 a11 a12 a13 a14 a15 a16 a17 a18 a19 a20 a21 a22 a23 a24 a25 a26 a27 a28 a29 a30 a31 a32 a33) (netpolicy_Isolated.f (k + 1) a0 a1 a2 a3 a4 a5 a6 a7 a8 a9 a10 a11 a12 a13 a14 a15 a16 a17 a18 a19 a20 a21 a22 a23 a24 a25 a26 a27 a28 a29 a30 a31 a32 a33) := by
 intro a0 a1 a2 a3 a4 a5 a6 a7 a8 a9 a10 a11 a12 a13 a14 a15 a16 a17 a18 a19 a20 a21 a22 a23 a24 a25 a26 a27 a28 a29 a30 a31 a32 a33 k
 unfold netpolicy_Isolated.f
 repeat' first
   | (with_reducible exact api_NetworkPolicy_18_c19.mono _ _ _ _ _ _ _ _ _ _ _ _ _ _ _ _ _ _ _ _ _ _ _ _ _ _ _ _ _ _ _ _ _ _ _)
   | (with_reducible exact LeO.refl _)
   | (with_reducible exact LeO.none _)
   | (with_reducible refine LeO.ite ?_ ?_)
   | (with_reducible refine LeO.bind ?_ (fun _ => ?_))
   | exact api_NetworkPolicy_18_c19.mono _ _ _ _ _ _ _ _ _ _ _ _ _ _ _ _ _ _ _ _ _ _ _ _ _ _ _ _ _ _ _ _ _ _ _
   | exact LeO.none _
   | refine LeO.ite ?_ ?_
   | refine LeO.bind ?_ (fun _ => ?_)
set_option maxHeartbeats 8000000 in
set_option maxRecDepth 100000 in
theorem netpolicy_Isolated.calls (k : Nat) (A0 : Option Addr) (c0 : Nat) (l0 : List (S54)) (a1_0 : ByteArray) (a1_1 : ByteArray) (a1_2 : ByteArray) (a1_3 : Int) (a1_4 : Int) (a1_5 : Int) (a1_6 : Int) (a1_7 : Bool) (a1_8 : Int) (A1_9 : Option Addr) (c1_9 : Nat) (l1_9 : List (S72)) (A1_10 : Option Addr) (c1_10 : Nat) (l1_10 : List (S110)) (A1_11 : Option Addr) (c1_11 : Nat) (l1_11 : List ByteArray) (A1_12 : Option Addr) (c1_12 : Nat) (l1_12 : List (S112)) (a1_13 : ByteArray) (a1_14 : Int) (a1_15 : Int) (a1_16 : Int) (A1_17 : Option Addr) (c1_17 : Nat) (l1_17 : List (S117)) (A1_18 : Option Addr) (c1_18 : Nat) (l1_18 : List (S74)) (A1_19 : Option Addr) (c1_19 : Nat) (l1_19 : List (S119)) (A1_20 : Option Addr) (c1_20 : Nat) (l1_20 : List (S121)) (A1_21 : Option Addr) (c1_21 : Nat) (l1_21 : List (S123)) (A1_22 : Option Addr) (c1_22 : Nat) (l1_22 : List (S125)) (a1_23 : Int) (a1_24 : Bool) (a1_25 : Int) (a1_26 : Int) (a1_27 : Int) (A1_28 : Option Addr) (c1_28 : Nat) (l1_28 : List (S127)) (a1_29 : Int) (a1_30 : ByteArray) (a1_31 : ByteArray) (a2 : Bool) (r : Bool) (w : World) (hr0 : Kd.C k54 w A0 l0.length l0) (hc0 : l0.length ≤ c0) (hr1_9 : Kd.C k72 w A1_9 l1_9.length l1_9) (hc1_9 : l1_9.length ≤ c1_9) (hr1_10 : Kd.C k110 w A1_10 l1_10.length l1_10) (hc1_10 : l1_10.length ≤ c1_10) (hr1_11 : Kd.C Kd.string w A1_11 l1_11.length l1_11) (hc1_11 : l1_11.length ≤ c1_11) (hr1_12 : Kd.C k112 w A1_12 l1_12.length l1_12) (hc1_12 : l1_12.length ≤ c1_12) (hr1_17 : Kd.C k117 w A1_17 l1_17.length l1_17) (hc1_17 : l1_17.length ≤ c1_17) (hr1_18 : Kd.C k74 w A1_18 l1_18.length l1_18) (hc1_18 : l1_18.length ≤ c1_18) (hr1_19 : Kd.C k119 w A1_19 l1_19.length l1_19) (hc1_19 : l1_19.length ≤ c1_19) (hr1_20 : Kd.C k121 w A1_20 l1_20.length l1_20) (hc1_20 : l1_20.length ≤ c1_20) (hr1_21 : Kd.C k123 w A1_21 l1_21.length l1_21) (hc1_21 : l1_21.length ≤ c1_21) (hr1_22 : Kd.C k125 w A1_22 l1_22.length l1_22) (hc1_22 : l1_22.length ≤ c1_22) (hr1_28 : Kd.C k127 w A1_28 l1_28.length l1_28) (hc1_28 : l1_28.length ≤ c1_28) (h : netpolicy_Isolated.f k l0 a1_0 a1_1 a1_2 a1_3 a1_4 a1_5 a1_6 a1_7 a1_8 l1_9 l1_10 l1_11 l1_12 a1_13 a1_14 a1_15 a1_16 l1_17 l1_18 l1_19 l1_20 l1_21 l1_22 a1_23 a1_24 a1_25 a1_26 a1_27 l1_28 a1_29 a1_30 a1_31 a2 = some r) :
  Calls Try.prog 9 #[.slice A0 l0.length c0, .agg #[.string a1_0, .string a1_1, .string a1_2, .int .i64 a1_3, .int .i64 a1_4, .int .i64 a1_5, .int .i64 a1_6, .bool a1_7, .int .i64 a1_8, .slice A1_9 l1_9.length c1_9, .slice A1_10 l1_10.length c1_10, .slice A1_11 l1_11.length c1_11, .slice A1_12 l1_12.length c1_12, .string a1_13, .int .i64 a1_14, .int .i64 a1_15, .int .i64 a1_16, .slice A1_17 l1_17.length c1_17, .slice A1_18 l1_18.length c1_18, .slice A1_19 l1_19.length c1_19, .slice A1_20 l1_20.length c1_20, .slice A1_21 l1_21.length c1_21, .slice A1_22 l1_22.length c1_22, .int .i64 a1_23, .bool a1_24, .int .i64 a1_25, .int .i64 a1_26, .int .i64 a1_27, .slice A1_28 l1_28.length c1_28, .int .i64 a1_29, .string a1_30, .string a1_31], .bool a2] w fun e w' => e = .returned (.bool r) ∧ Below w.heap.size w w' := by
 have hu41 := Try.underlying41
 have HR0 := s_a hr0
 have HC0 := s_a hc0
 clear hr0 hc0
 have HR1_9 := s_a hr1_9
 have HC1_9 := s_a hc1_9
 clear hr1_9 hc1_9
 have HR1_10 := s_a hr1_10
 have HC1_10 := s_a hc1_10
 clear hr1_10 hc1_10
 have HR1_11 := s_a hr1_11
 have HC1_11 := s_a hc1_11
 clear hr1_11 hc1_11
 have HR1_12 := s_a hr1_12
 have HC1_12 := s_a hc1_12
 clear hr1_12 hc1_12
 have HR1_17 := s_a hr1_17
 have HC1_17 := s_a hc1_17
 clear hr1_17 hc1_17
 have HR1_18 := s_a hr1_18
 have HC1_18 := s_a hc1_18
 clear hr1_18 hc1_18
 have HR1_19 := s_a hr1_19
 have HC1_19 := s_a hc1_19
 clear hr1_19 hc1_19
 have HR1_20 := s_a hr1_20
 have HC1_20 := s_a hc1_20
 clear hr1_20 hc1_20
 have HR1_21 := s_a hr1_21
 have HC1_21 := s_a hc1_21
 clear hr1_21 hc1_21
 have HR1_22 := s_a hr1_22
 have HC1_22 := s_a hc1_22
 clear hr1_22 hc1_22
 have HR1_28 := s_a hr1_28
 have HC1_28 := s_a hc1_28
 clear hr1_28 hc1_28
 have HB := s_a (Below.refl w.heap.size w)
 have H : ((api_NetworkPolicy_18_c19.f k l0 a1_0 a1_1 a1_2 a1_3 a1_4 a1_5 a1_6 a1_7 a1_8 l1_9 l1_10 l1_11 l1_12 a1_13 a1_14 a1_15 a1_16 l1_17 l1_18 l1_19 l1_20 l1_21 l1_22 a1_23 a1_24 a1_25 a1_26 a1_27 l1_28 a1_29 a1_30 a1_31 a2).bind fun t135 => (some t135)) = some r := h
 clear h
 replace H := Option.bind_eq_some_iff.mp H
 obtain ⟨t135, A40, H⟩ := H
 replace H : (some t135) = some r := H
 have A4 := s_a A40
 clear A40
 obtain rfl := Option.some.inj H
 go_enter Try.func9, Try.ntmps9
 go_wp2_with (first | ((with_reducible refine gate_dst (N := 4) rfl ?_); refine box_event ?hg (N := 4) ?hd (cs := #[.string a1_0, .string a1_1, .string a1_2, .int .i64 a1_3, .int .i64 a1_4, .int .i64 a1_5, .int .i64 a1_6, .bool a1_7, .int .i64 a1_8, .slice A1_9 l1_9.length c1_9, .slice A1_10 l1_10.length c1_10, .slice A1_11 l1_11.length c1_11, .slice A1_12 l1_12.length c1_12, .string a1_13, .int .i64 a1_14, .int .i64 a1_15, .int .i64 a1_16, .slice A1_17 l1_17.length c1_17, .slice A1_18 l1_18.length c1_18, .slice A1_19 l1_19.length c1_19, .slice A1_20 l1_20.length c1_20, .slice A1_21 l1_21.length c1_21, .slice A1_22 l1_22.length c1_22, .int .i64 a1_23, .bool a1_24, .int .i64 a1_25, .int .i64 a1_26, .int .i64 a1_27, .slice A1_28 l1_28.length c1_28, .int .i64 a1_29, .string a1_30, .string a1_31]) (t := 41) ?hr ?_; (case hd => rfl); (case hg => rfl); (case hr => first | (go_simp; done) | (go_simp; rfl)); intro gb133 hg w5 hbox hb; have BK133 := s_a (hbox); have GW133 := s_a ((by rw [hg]; exact (below_size (by exact s_b HB.out)) : w.heap.size ≤ gb133)); have GE133 := s_a ((by rw [hg]; exact (below_size (by exact s_b HB.out)) : w.heap.size ≤ gb133)); replace HB := s_a (below_step (by exact s_b HB.out) hb); clear hb hbox hg) | ((with_reducible refine gate_dst (N := 5) rfl ?_); refine box_event ?hg (N := 5) ?hd (cs := #[.bool a2]) (t := 4) ?hr ?_; (case hd => rfl); (case hg => rfl); (case hr => first | (go_simp; done) | (go_simp; rfl)); intro gb134 hg w6 hbox hb; have BK134 := s_a (hbox); have GW134 := s_a ((by rw [hg]; exact (below_size (by exact s_b HB.out)) : w.heap.size ≤ gb134)); have GE134 := s_a ((by rw [hg]; exact (below_size (by exact s_b HB.out)) : w.heap.size ≤ gb134)); have NB133_134 := s_a ((by rw [hg]; exact Nat.ne_of_lt (blk_lt (s_k BK133.out)) : gb133 ≠ gb134)); have NB134_133 := s_a ((by rw [hg]; exact Nat.ne_of_gt (blk_lt (s_k BK133.out)) : gb134 ≠ gb133)); replace BK133 := s_a (blk_below (s_k BK133.out) hb); replace HB := s_a (below_step (by exact s_b HB.out) hb); clear hb hbox hg) | (go_at_call 18; (with_reducible refine (api_NetworkPolicy_18_c19.calls k _ _ _ gb133 gb134 a1_0 a1_1 a1_2 a1_3 a1_4 a1_5 a1_6 a1_7 a1_8 A1_9 c1_9 l1_9 A1_10 c1_10 l1_10 A1_11 c1_11 l1_11 A1_12 c1_12 l1_12 a1_13 a1_14 a1_15 a1_16 A1_17 c1_17 l1_17 A1_18 c1_18 l1_18 A1_19 c1_19 l1_19 A1_20 c1_20 l1_20 A1_21 c1_21 l1_21 A1_22 c1_22 l1_22 a1_23 a1_24 a1_25 a1_26 a1_27 A1_28 c1_28 l1_28 a1_29 a1_30 a1_31 a2 _ _ ?side1 ?side2 ?side3 ?side4 ?side5 ?side6 ?side7 ?side8 ?side9 ?side10 ?side11 ?side12 ?side13 ?side14 ?side15 ?side16 ?side17 ?side18 ?side19 ?side20 ?side21 ?side22 ?side23 ?side24 ?side25 ?side26 ?side27 A4.out).mono ?_); (case side1 => exact s_D HR0.out HB.out); (case side2 => exact HC0.out); (case side3 => exact s_D HR1_9.out HB.out); (case side4 => exact HC1_9.out); (case side5 => exact s_D HR1_10.out HB.out); (case side6 => exact HC1_10.out); (case side7 => exact s_D HR1_11.out HB.out); (case side8 => exact HC1_11.out); (case side9 => exact s_D HR1_12.out HB.out); (case side10 => exact HC1_12.out); (case side11 => exact s_D HR1_17.out HB.out); (case side12 => exact HC1_17.out); (case side13 => exact s_D HR1_18.out HB.out); (case side14 => exact HC1_18.out); (case side15 => exact s_D HR1_19.out HB.out); (case side16 => exact HC1_19.out); (case side17 => exact s_D HR1_20.out HB.out); (case side18 => exact HC1_20.out); (case side19 => exact s_D HR1_21.out HB.out); (case side20 => exact HC1_21.out); (case side21 => exact s_D HR1_22.out HB.out); (case side22 => exact HC1_22.out); (case side23 => exact s_D HR1_28.out HB.out); (case side24 => exact HC1_28.out); (case side25 => exact (by exact s_k BK133.out)); (case side26 => exact (by exact s_k BK134.out)); (case side27 => exact NB133_134.out); rintro e w7 ⟨rfl, hb⟩; (try clear A4); replace BK133 := s_a (blk_below (s_k BK133.out) hb); replace BK134 := s_a (blk_below (s_k BK134.out) hb); replace HB := s_a (below_step (by exact s_b HB.out) hb); (try clear hb)))
 go_ret
 exact ⟨by first | rfl | (simp [errW_none, errW_some] <;> rfl) | (simp [*, errW_none, errW_some] <;> rfl), by exact s_b HB.out⟩
def meta_Key.f (a0 : ByteArray) (a1 : ByteArray) (a2 : ByteArray) : Option (ByteArray) := if a0.size + 1 ≤ 9223372036854775807 then (if a0.size + 1 + a1.size ≤ 9223372036854775807 then (if a0.size + 1 + a1.size + 1 ≤ 9223372036854775807 then (if a0.size + 1 + a1.size + 1 + a2.size ≤ 9223372036854775807 then (some ((((a0 ++ (⟨#[47]⟩ : ByteArray)) ++ a1) ++ (⟨#[47]⟩ : ByteArray)) ++ a2)) else (none)) else (none)) else (none)) else (none)
set_option maxHeartbeats 8000000 in
set_option maxRecDepth 100000 in
theorem meta_Key.calls (a0 : ByteArray) (a1 : ByteArray) (a2 : ByteArray) (r : ByteArray) (w : World) (h : meta_Key.f a0 a1 a2 = some r) :
  Calls Try.prog 29 #[.string a0, .string a1, .string a2] w fun e w' => e = .returned (.string r) ∧ Drawn0 w w' := by
 have H := h; unfold meta_Key.f at H
 clear h
 by_cases c4 : a0.size + 1 ≤ 9223372036854775807
 ·rw [if_pos c4] at H
  have c4b0 := eq_true c4
  have c4b1 : decide (a0.size + 1 ≤ 9223372036854775807) = true := decide_eq_true c4
  try have c4b2 : (9223372036854775807 < a0.size + 1) = False := eq_false (Nat.not_lt.2 c4)
  by_cases c5 : a0.size + 1 + a1.size ≤ 9223372036854775807
  ·rw [if_pos c5] at H
   have c5b0 := eq_true c5
   have c5b1 : decide (a0.size + 1 + a1.size ≤ 9223372036854775807) = true := decide_eq_true c5
   try have c5b2 : (9223372036854775807 < a0.size + 1 + a1.size) = False := eq_false (Nat.not_lt.2 c5)
   by_cases c6 : a0.size + 1 + a1.size + 1 ≤ 9223372036854775807
   ·rw [if_pos c6] at H
    have c6b0 := eq_true c6
    have c6b1 : decide (a0.size + 1 + a1.size + 1 ≤ 9223372036854775807) = true := decide_eq_true c6
    try have c6b2 : (9223372036854775807 < a0.size + 1 + a1.size + 1) = False := eq_false (Nat.not_lt.2 c6)
    by_cases c7 : a0.size + 1 + a1.size + 1 + a2.size ≤ 9223372036854775807
    ·rw [if_pos c7] at H
     have c7b0 := eq_true c7
     have c7b1 : decide (a0.size + 1 + a1.size + 1 + a2.size ≤ 9223372036854775807) = true := decide_eq_true c7
     try have c7b2 : (9223372036854775807 < a0.size + 1 + a1.size + 1 + a2.size) = False := eq_false (Nat.not_lt.2 c7)
     obtain rfl := Option.some.inj H
     go_enter Try.func29, Try.ntmps29
     go_wp2
     go_ret
     exact ⟨by first | rfl | (simp; done) | (simp [*]; done), by repeat (first | exact Drawn0.refl _ | apply Drawn0.step)⟩
    ·rw [if_neg c7] at H
     exact absurd H (by simp)
   ·rw [if_neg c6] at H
    exact absurd H (by simp)
  ·rw [if_neg c5] at H
   exact absurd H (by simp)
 ·rw [if_neg c4] at H
  exact absurd H (by simp)
def meta_KeyOf.f (a0_0 : ByteArray) (a0_1 : ByteArray) (a0_2 : ByteArray) (a0_3 : Int) (a0_4 : Int) (a0_5 : Int) (a0_6 : Int) (a0_7 : Bool) (a0_8 : Int) (l0_9 : List (S72)) (l0_10 : List (S110)) (l0_11 : List ByteArray) (l0_12 : List (S112)) : Option (ByteArray) := (meta_Key.f a0_0 a0_1 a0_2).bind fun t137 => (some t137)
set_option maxHeartbeats 8000000 in
set_option maxRecDepth 100000 in
theorem meta_KeyOf.calls (a0_0 : ByteArray) (a0_1 : ByteArray) (a0_2 : ByteArray) (a0_3 : Int) (a0_4 : Int) (a0_5 : Int) (a0_6 : Int) (a0_7 : Bool) (a0_8 : Int) (A0_9 : Option Addr) (c0_9 : Nat) (l0_9 : List (S72)) (A0_10 : Option Addr) (c0_10 : Nat) (l0_10 : List (S110)) (A0_11 : Option Addr) (c0_11 : Nat) (l0_11 : List ByteArray) (A0_12 : Option Addr) (c0_12 : Nat) (l0_12 : List (S112)) (r : ByteArray) (w : World) (hr0_9 : Kd.C k72 w A0_9 l0_9.length l0_9) (hc0_9 : l0_9.length ≤ c0_9) (hr0_10 : Kd.C k110 w A0_10 l0_10.length l0_10) (hc0_10 : l0_10.length ≤ c0_10) (hr0_11 : Kd.C Kd.string w A0_11 l0_11.length l0_11) (hc0_11 : l0_11.length ≤ c0_11) (hr0_12 : Kd.C k112 w A0_12 l0_12.length l0_12) (hc0_12 : l0_12.length ≤ c0_12) (h : meta_KeyOf.f a0_0 a0_1 a0_2 a0_3 a0_4 a0_5 a0_6 a0_7 a0_8 l0_9 l0_10 l0_11 l0_12 = some r) :
  Calls Try.prog 22 #[.agg #[.string a0_0, .string a0_1, .string a0_2, .int .i64 a0_3, .int .i64 a0_4, .int .i64 a0_5, .int .i64 a0_6, .bool a0_7, .int .i64 a0_8, .slice A0_9 l0_9.length c0_9, .slice A0_10 l0_10.length c0_10, .slice A0_11 l0_11.length c0_11, .slice A0_12 l0_12.length c0_12]] w fun e w' => e = .returned (.string r) ∧ Below w.heap.size w w' := by
 have hu28 := Try.underlying28
 have HR0_9 := s_a hr0_9
 have HC0_9 := s_a hc0_9
 clear hr0_9 hc0_9
 have HR0_10 := s_a hr0_10
 have HC0_10 := s_a hc0_10
 clear hr0_10 hc0_10
 have HR0_11 := s_a hr0_11
 have HC0_11 := s_a hc0_11
 clear hr0_11 hc0_11
 have HR0_12 := s_a hr0_12
 have HC0_12 := s_a hc0_12
 clear hr0_12 hc0_12
 have HB := s_a (Below.refl w.heap.size w)
 have H : ((meta_Key.f a0_0 a0_1 a0_2).bind fun t137 => (some t137)) = some r := h
 clear h
 replace H := Option.bind_eq_some_iff.mp H
 obtain ⟨t137, A20, H⟩ := H
 replace H : (some t137) = some r := H
 have A2 := s_a A20
 clear A20
 obtain rfl := Option.some.inj H
 go_enter Try.func22, Try.ntmps22
 go_wp2_with (first | ((with_reducible refine gate_dst (N := 1) rfl ?_); refine box_event ?hg (N := 1) ?hd (cs := #[.string a0_0, .string a0_1, .string a0_2, .int .i64 a0_3, .int .i64 a0_4, .int .i64 a0_5, .int .i64 a0_6, .bool a0_7, .int .i64 a0_8, .slice A0_9 l0_9.length c0_9, .slice A0_10 l0_10.length c0_10, .slice A0_11 l0_11.length c0_11, .slice A0_12 l0_12.length c0_12]) (t := 28) ?hr ?_; (case hd => rfl); (case hg => rfl); (case hr => first | (go_simp; done) | (go_simp; rfl)); intro gb136 hg w3 hbox hb; have BK136 := s_a (hbox); have GW136 := s_a ((by rw [hg]; exact (below_size (by exact s_b HB.out)) : w.heap.size ≤ gb136)); have GE136 := s_a ((by rw [hg]; exact (below_size (by exact s_b HB.out)) : w.heap.size ≤ gb136)); replace HB := s_a (below_step (by exact s_b HB.out) hb); clear hb hbox hg; obtain ⟨hcz4_0, hcz4_1, hcz4_2, hcz4_3, hcz4_4, hcz4_5, hcz4_6, hcz4_7, hcz4_8, hcz4_9, hcz4_10, hcz4_11, hcz4_12⟩ := cells28 BK136.out) | ((with_reducible refine gate_callee (f := 29) rfl ?_); refine goesL_ (some 9) rfl rfl Try.func29 (by kernel_rfl) rfl #[.string a0_0, .string a0_1, .string a0_2] rfl (by (try simp only [List.map_toArray, List.map_cons, List.map_nil]); first | done | rfl | (simp only [List.length_drop, List.length_take]; rfl)) ?_; (with_reducible refine (meta_Key.calls _ _ _ _ _ A2.out).mono ?_); rintro e w' ⟨rfl, ⟨nd, rfl⟩⟩; refine ⟨_, rfl, ?_⟩))
 go_ret
 exact ⟨by first | rfl | (simp [errW_none, errW_some] <;> rfl) | (simp [*, errW_none, errW_some] <;> rfl), by exact s_b HB.out⟩
def netpolicy_admits_1.f (k : Nat) (a0_0 : ByteArray) (l0_1 : List (S74)) (a1_0 : ByteArray) (a1_1 : ByteArray) (a1_2 : ByteArray) (a1_3 : Int) (a1_4 : Int) (a1_5 : Int) (a1_6 : Int) (a1_7 : Bool) (a1_8 : Int) (l1_9 : List (S72)) (l1_10 : List (S110)) (l1_11 : List ByteArray) (l1_12 : List (S112)) (a1_13 : ByteArray) (a1_14 : Int) (a1_15 : Int) (a1_16 : Int) (l1_17 : List (S117)) (l1_18 : List (S74)) (l1_19 : List (S119)) (l1_20 : List (S121)) (l1_21 : List (S123)) (l1_22 : List (S125)) (a1_23 : Int) (a1_24 : Bool) (a1_25 : Int) (a1_26 : Int) (a1_27 : Int) (l1_28 : List (S127)) (a1_29 : Int) (a1_30 : ByteArray) (a1_31 : ByteArray) : Option (Bool) := if a0_0.toList = ([] : List UInt8) then ((label_Matches.f k l0_1 l1_9).bind fun t140 => (some t140)) else (if a0_0.toList = a1_1.toList then ((label_Matches.f k l0_1 l1_9).bind fun t141 => (some t141)) else (some false))
theorem netpolicy_admits_1.mono : ∀ a0 a1 a2 a3 a4 a5 a6 a7 a8 a9 a10 a11 a12 a13 a14 a15 a16 a17 a18 a19 a20 a21 a22 a23 a24 a25 a26 a27 a28 a29 a30 a31 a32 a33 k, LeO (netpolicy_admits_1.f k a0 a1 a2 a3 a4 a5 a6 a7 a8 a9 a10 a11 a12 a13 a14 a15 a16 a17 a18 a19 a20 a21 a22 a23 a24 a25 a26 a27 a28 a29 a30 a31 a32 a33) (netpolicy_admits_1.f (k + 1) a0 a1 a2 a3 a4 a5 a6 a7 a8 a9 a10 a11 a12 a13 a14 a15 a16 a17 a18 a19 a20 a21 a22 a23 a24 a25 a26 a27 a28 a29 a30 a31 a32 a33) := by
 intro a0 a1 a2 a3 a4 a5 a6 a7 a8 a9 a10 a11 a12 a13 a14 a15 a16 a17 a18 a19 a20 a21 a22 a23 a24 a25 a26 a27 a28 a29 a30 a31 a32 a33 k
 unfold netpolicy_admits_1.f
 repeat' first
   | (with_reducible exact label_Matches.mono _ _ _)
   | (with_reducible exact LeO.refl _)
   | (with_reducible exact LeO.none _)
   | (with_reducible refine LeO.ite ?_ ?_)
   | (with_reducible refine LeO.bind ?_ (fun _ => ?_))
   | exact label_Matches.mono _ _ _
   | exact LeO.none _
   | refine LeO.ite ?_ ?_
   | refine LeO.bind ?_ (fun _ => ?_)
set_option maxHeartbeats 8000000 in
set_option maxRecDepth 100000 in
theorem netpolicy_admits_1.calls (k : Nat) (a0_0 : ByteArray) (A0_1 : Option Addr) (c0_1 : Nat) (l0_1 : List (S74)) (g1_ : Nat) (a1_0 : ByteArray) (a1_1 : ByteArray) (a1_2 : ByteArray) (a1_3 : Int) (a1_4 : Int) (a1_5 : Int) (a1_6 : Int) (a1_7 : Bool) (a1_8 : Int) (A1_9 : Option Addr) (c1_9 : Nat) (l1_9 : List (S72)) (A1_10 : Option Addr) (c1_10 : Nat) (l1_10 : List (S110)) (A1_11 : Option Addr) (c1_11 : Nat) (l1_11 : List ByteArray) (A1_12 : Option Addr) (c1_12 : Nat) (l1_12 : List (S112)) (a1_13 : ByteArray) (a1_14 : Int) (a1_15 : Int) (a1_16 : Int) (A1_17 : Option Addr) (c1_17 : Nat) (l1_17 : List (S117)) (A1_18 : Option Addr) (c1_18 : Nat) (l1_18 : List (S74)) (A1_19 : Option Addr) (c1_19 : Nat) (l1_19 : List (S119)) (A1_20 : Option Addr) (c1_20 : Nat) (l1_20 : List (S121)) (A1_21 : Option Addr) (c1_21 : Nat) (l1_21 : List (S123)) (A1_22 : Option Addr) (c1_22 : Nat) (l1_22 : List (S125)) (a1_23 : Int) (a1_24 : Bool) (a1_25 : Int) (a1_26 : Int) (a1_27 : Int) (A1_28 : Option Addr) (c1_28 : Nat) (l1_28 : List (S127)) (a1_29 : Int) (a1_30 : ByteArray) (a1_31 : ByteArray) (r : Bool) (w : World) (hr0_1 : Kd.C k74 w A0_1 l0_1.length l0_1) (hc0_1 : l0_1.length ≤ c0_1) (hr1_9 : Kd.C k72 w A1_9 l1_9.length l1_9) (hc1_9 : l1_9.length ≤ c1_9) (hr1_10 : Kd.C k110 w A1_10 l1_10.length l1_10) (hc1_10 : l1_10.length ≤ c1_10) (hr1_11 : Kd.C Kd.string w A1_11 l1_11.length l1_11) (hc1_11 : l1_11.length ≤ c1_11) (hr1_12 : Kd.C k112 w A1_12 l1_12.length l1_12) (hc1_12 : l1_12.length ≤ c1_12) (hr1_17 : Kd.C k117 w A1_17 l1_17.length l1_17) (hc1_17 : l1_17.length ≤ c1_17) (hr1_18 : Kd.C k74 w A1_18 l1_18.length l1_18) (hc1_18 : l1_18.length ≤ c1_18) (hr1_19 : Kd.C k119 w A1_19 l1_19.length l1_19) (hc1_19 : l1_19.length ≤ c1_19) (hr1_20 : Kd.C k121 w A1_20 l1_20.length l1_20) (hc1_20 : l1_20.length ≤ c1_20) (hr1_21 : Kd.C k123 w A1_21 l1_21.length l1_21) (hc1_21 : l1_21.length ≤ c1_21) (hr1_22 : Kd.C k125 w A1_22 l1_22.length l1_22) (hc1_22 : l1_22.length ≤ c1_22) (hr1_28 : Kd.C k127 w A1_28 l1_28.length l1_28) (hc1_28 : l1_28.length ≤ c1_28) (hbx1 : w.heap[g1_]? = some (.cells #[.string a1_0, .string a1_1, .string a1_2, .int .i64 a1_3, .int .i64 a1_4, .int .i64 a1_5, .int .i64 a1_6, .bool a1_7, .int .i64 a1_8, .slice A1_9 l1_9.length c1_9, .slice A1_10 l1_10.length c1_10, .slice A1_11 l1_11.length c1_11, .slice A1_12 l1_12.length c1_12, .string a1_13, .int .i64 a1_14, .int .i64 a1_15, .int .i64 a1_16, .slice A1_17 l1_17.length c1_17, .slice A1_18 l1_18.length c1_18, .slice A1_19 l1_19.length c1_19, .slice A1_20 l1_20.length c1_20, .slice A1_21 l1_21.length c1_21, .slice A1_22 l1_22.length c1_22, .int .i64 a1_23, .bool a1_24, .int .i64 a1_25, .int .i64 a1_26, .int .i64 a1_27, .slice A1_28 l1_28.length c1_28, .int .i64 a1_29, .string a1_30, .string a1_31] 41 (0, 0))) (h : netpolicy_admits_1.f k a0_0 l0_1 a1_0 a1_1 a1_2 a1_3 a1_4 a1_5 a1_6 a1_7 a1_8 l1_9 l1_10 l1_11 l1_12 a1_13 a1_14 a1_15 a1_16 l1_17 l1_18 l1_19 l1_20 l1_21 l1_22 a1_23 a1_24 a1_25 a1_26 a1_27 l1_28 a1_29 a1_30 a1_31 = some r) :
  Calls Try.prog 40 #[.agg #[.string a0_0, .slice A0_1 l0_1.length c0_1], .pointer (some ⟨g1_, 0, none⟩)] w fun e w' => e = .returned (.bool r) ∧ Below w.heap.size w w' := by
 have hu64 := Try.underlying64
 have HR0_1 := s_a hr0_1
 have HC0_1 := s_a hc0_1
 clear hr0_1 hc0_1
 have HR1_9 := s_a hr1_9
 have HC1_9 := s_a hc1_9
 clear hr1_9 hc1_9
 have HR1_10 := s_a hr1_10
 have HC1_10 := s_a hc1_10
 clear hr1_10 hc1_10
 have HR1_11 := s_a hr1_11
 have HC1_11 := s_a hc1_11
 clear hr1_11 hc1_11
 have HR1_12 := s_a hr1_12
 have HC1_12 := s_a hc1_12
 clear hr1_12 hc1_12
 have HR1_17 := s_a hr1_17
 have HC1_17 := s_a hc1_17
 clear hr1_17 hc1_17
 have HR1_18 := s_a hr1_18
 have HC1_18 := s_a hc1_18
 clear hr1_18 hc1_18
 have HR1_19 := s_a hr1_19
 have HC1_19 := s_a hc1_19
 clear hr1_19 hc1_19
 have HR1_20 := s_a hr1_20
 have HC1_20 := s_a hc1_20
 clear hr1_20 hc1_20
 have HR1_21 := s_a hr1_21
 have HC1_21 := s_a hc1_21
 clear hr1_21 hc1_21
 have HR1_22 := s_a hr1_22
 have HC1_22 := s_a hc1_22
 clear hr1_22 hc1_22
 have HR1_28 := s_a hr1_28
 have HC1_28 := s_a hc1_28
 clear hr1_28 hc1_28
 have BK138 := s_a hbx1
 clear hbx1
 have HB := s_a (Below.refl w.heap.size w)
 have H : (if a0_0.toList = ([] : List UInt8) then ((label_Matches.f k l0_1 l1_9).bind fun t140 => (some t140)) else (if a0_0.toList = a1_1.toList then ((label_Matches.f k l0_1 l1_9).bind fun t141 => (some t141)) else (some false))) = some r := h
 clear h
 by_cases c3 : a0_0.toList = ([] : List UInt8)
 ·rw [if_pos c3] at H
  have c3b0 : (a0_0.toList == ([] : List UInt8)) = true := beq_iff_eq.mpr c3
  have c3b1 : (a0_0.toList != ([] : List UInt8)) = false := bne_eq_false_iff_eq.mpr c3
  clear c3
  replace H := Option.bind_eq_some_iff.mp H
  obtain ⟨t140, A40, H⟩ := H
  replace H : (some t140) = some r := H
  have A4 := s_a A40
  clear A40
  obtain rfl := Option.some.inj H
  go_enter Try.func40, Try.ntmps40
  go_wp2_with (first | ((with_reducible refine gate_dst (N := 2) rfl ?_); refine box_event ?hg (N := 2) ?hd (cs := #[.string a0_0, .slice A0_1 l0_1.length c0_1]) (t := 64) ?hr ?_; (case hd => rfl); (case hg => rfl); (case hr => first | (go_simp; done) | (go_simp; rfl)); intro gb139 hg w5 hbox hb; have BK139 := s_a (hbox); have GW139 := s_a ((by rw [hg]; exact (below_size (by exact s_b HB.out)) : w.heap.size ≤ gb139)); have GE139 := s_a ((by rw [hg]; exact (below_size (by exact s_b HB.out)) : w.heap.size ≤ gb139)); have NB138_139 := s_a ((by rw [hg]; exact Nat.ne_of_lt (blk_lt (s_k BK138.out)) : g1_ ≠ gb139)); have NB139_138 := s_a ((by rw [hg]; exact Nat.ne_of_gt (blk_lt (s_k BK138.out)) : gb139 ≠ g1_)); replace BK138 := s_a (blk_below (s_k BK138.out) hb); replace HB := s_a (below_step (by exact s_b HB.out) hb); clear hb hbox hg; have hnb6 := NB139_138.out; have hnc6 := NB138_139.out; obtain ⟨hcz7_0, hcz7_1⟩ := cells64 BK139.out; obtain ⟨hcz8_0, hcz8_1, hcz8_2, hcz8_3, hcz8_4, hcz8_5, hcz8_6, hcz8_7, hcz8_8, hcz8_9, hcz8_10, hcz8_11, hcz8_12, hcz8_13, hcz8_14, hcz8_15, hcz8_16, hcz8_17, hcz8_18, hcz8_19, hcz8_20, hcz8_21, hcz8_22, hcz8_23, hcz8_24, hcz8_25, hcz8_26, hcz8_27, hcz8_28, hcz8_29, hcz8_30, hcz8_31⟩ := cells41 BK138.out) | (go_at_call 27; (with_reducible refine (label_Matches.calls k _ _ _ _ _ _ _ _ ?side1 ?side2 ?side3 ?side4 A4.out).mono ?_); (case side1 => exact s_D HR0_1.out HB.out); (case side2 => exact HC0_1.out); (case side3 => exact s_D HR1_9.out HB.out); (case side4 => exact HC1_9.out); rintro e w9 ⟨rfl, hb⟩; (try clear A4); replace BK138 := s_a (blk_below (s_k BK138.out) hb); replace BK139 := s_a (blk_below (s_k BK139.out) hb); replace HB := s_a (below_step (by exact s_b HB.out) hb); (try clear hb)))
  go_ret
  exact ⟨by first | rfl | (simp [errW_none, errW_some] <;> rfl) | (simp [*, errW_none, errW_some] <;> rfl), by exact s_b HB.out⟩
 ·rw [if_neg c3] at H
  have c3b0 : (a0_0.toList == ([] : List UInt8)) = false := beq_eq_false_iff_ne.mpr c3
  have c3b1 : (a0_0.toList != ([] : List UInt8)) = true := bne_iff_ne.mpr c3
  by_cases c10 : a0_0.toList = a1_1.toList
  ·rw [if_pos c10] at H
   have c10b0 : (a0_0.toList == a1_1.toList) = true := beq_iff_eq.mpr c10
   have c10b1 : (a0_0.toList != a1_1.toList) = false := bne_eq_false_iff_eq.mpr c10
   clear c10
   replace H := Option.bind_eq_some_iff.mp H
   obtain ⟨t141, A110, H⟩ := H
   replace H : (some t141) = some r := H
   have A11 := s_a A110
   clear A110
   obtain rfl := Option.some.inj H
   go_enter Try.func40, Try.ntmps40
   go_wp2_with (first | ((with_reducible refine gate_dst (N := 2) rfl ?_); refine box_event ?hg (N := 2) ?hd (cs := #[.string a0_0, .slice A0_1 l0_1.length c0_1]) (t := 64) ?hr ?_; (case hd => rfl); (case hg => rfl); (case hr => first | (go_simp; done) | (go_simp; rfl)); intro gb139 hg w12 hbox hb; have BK139 := s_a (hbox); have GW139 := s_a ((by rw [hg]; exact (below_size (by exact s_b HB.out)) : w.heap.size ≤ gb139)); have GE139 := s_a ((by rw [hg]; exact (below_size (by exact s_b HB.out)) : w.heap.size ≤ gb139)); have NB138_139 := s_a ((by rw [hg]; exact Nat.ne_of_lt (blk_lt (s_k BK138.out)) : g1_ ≠ gb139)); have NB139_138 := s_a ((by rw [hg]; exact Nat.ne_of_gt (blk_lt (s_k BK138.out)) : gb139 ≠ g1_)); replace BK138 := s_a (blk_below (s_k BK138.out) hb); replace HB := s_a (below_step (by exact s_b HB.out) hb); clear hb hbox hg; have hnb13 := NB139_138.out; have hnc13 := NB138_139.out; obtain ⟨hcz14_0, hcz14_1⟩ := cells64 BK139.out; obtain ⟨hcz15_0, hcz15_1, hcz15_2, hcz15_3, hcz15_4, hcz15_5, hcz15_6, hcz15_7, hcz15_8, hcz15_9, hcz15_10, hcz15_11, hcz15_12, hcz15_13, hcz15_14, hcz15_15, hcz15_16, hcz15_17, hcz15_18, hcz15_19, hcz15_20, hcz15_21, hcz15_22, hcz15_23, hcz15_24, hcz15_25, hcz15_26, hcz15_27, hcz15_28, hcz15_29, hcz15_30, hcz15_31⟩ := cells41 BK138.out) | (go_at_call 27; (with_reducible refine (label_Matches.calls k _ _ _ _ _ _ _ _ ?side1 ?side2 ?side3 ?side4 A11.out).mono ?_); (case side1 => exact s_D HR0_1.out HB.out); (case side2 => exact HC0_1.out); (case side3 => exact s_D HR1_9.out HB.out); (case side4 => exact HC1_9.out); rintro e w16 ⟨rfl, hb⟩; (try clear A11); replace BK138 := s_a (blk_below (s_k BK138.out) hb); replace BK139 := s_a (blk_below (s_k BK139.out) hb); replace HB := s_a (below_step (by exact s_b HB.out) hb); (try clear hb)))
   go_ret
   exact ⟨by first | rfl | (simp [errW_none, errW_some] <;> rfl) | (simp [*, errW_none, errW_some] <;> rfl), by exact s_b HB.out⟩
  ·rw [if_neg c10] at H
   have c10b0 : (a0_0.toList == a1_1.toList) = false := beq_eq_false_iff_ne.mpr c10
   have c10b1 : (a0_0.toList != a1_1.toList) = true := bne_iff_ne.mpr c10
   obtain rfl := Option.some.inj H
   go_enter Try.func40, Try.ntmps40
   go_wp2_with (first | ((with_reducible refine gate_dst (N := 2) rfl ?_); refine box_event ?hg (N := 2) ?hd (cs := #[.string a0_0, .slice A0_1 l0_1.length c0_1]) (t := 64) ?hr ?_; (case hd => rfl); (case hg => rfl); (case hr => first | (go_simp; done) | (go_simp; rfl)); intro gb139 hg w17 hbox hb; have BK139 := s_a (hbox); have GW139 := s_a ((by rw [hg]; exact (below_size (by exact s_b HB.out)) : w.heap.size ≤ gb139)); have GE139 := s_a ((by rw [hg]; exact (below_size (by exact s_b HB.out)) : w.heap.size ≤ gb139)); have NB138_139 := s_a ((by rw [hg]; exact Nat.ne_of_lt (blk_lt (s_k BK138.out)) : g1_ ≠ gb139)); have NB139_138 := s_a ((by rw [hg]; exact Nat.ne_of_gt (blk_lt (s_k BK138.out)) : gb139 ≠ g1_)); replace BK138 := s_a (blk_below (s_k BK138.out) hb); replace HB := s_a (below_step (by exact s_b HB.out) hb); clear hb hbox hg; have hnb18 := NB139_138.out; have hnc18 := NB138_139.out; obtain ⟨hcz19_0, hcz19_1⟩ := cells64 BK139.out; obtain ⟨hcz20_0, hcz20_1, hcz20_2, hcz20_3, hcz20_4, hcz20_5, hcz20_6, hcz20_7, hcz20_8, hcz20_9, hcz20_10, hcz20_11, hcz20_12, hcz20_13, hcz20_14, hcz20_15, hcz20_16, hcz20_17, hcz20_18, hcz20_19, hcz20_20, hcz20_21, hcz20_22, hcz20_23, hcz20_24, hcz20_25, hcz20_26, hcz20_27, hcz20_28, hcz20_29, hcz20_30, hcz20_31⟩ := cells41 BK138.out))
   go_ret
   exact ⟨by first | rfl | (simp [errW_none, errW_some] <;> rfl) | (simp [*, errW_none, errW_some] <;> rfl), by exact s_b HB.out⟩
end Go.Proofs.Ytkdikhonafbgdaa.Q
