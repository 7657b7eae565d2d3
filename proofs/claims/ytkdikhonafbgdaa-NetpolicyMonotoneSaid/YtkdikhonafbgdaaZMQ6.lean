/- Part of a claim: see its row. Conditions: stated at each. -/
import Derived.Test.YtkdikhonafbgdaaZMQ0
import Derived.Test.YtkdikhonafbgdaaZMQ3
import Derived.Test.YtkdikhonafbgdaaZMQ5
namespace Go.Proofs.Ytkdikhonafbgdaa.Q
open Go.RowKit Go.Proofs.YtkdikhonafbgdaaW.PrintWords Go.Proofs.YtkdikhonafbgdaaW.PrintLast Go.Proofs.YtkdikhonafbgdaaW.PrintMore Go.Proofs.Ytkdikhonafbgdaa.Sh
attribute [local go_sem] max2_int min2_int max_two min_two max_three min_three max_four min_four
set_option linter.unusedVariables false
set_option linter.unusedSimpArgs false
def netpolicy_Allowed.f (k : Nat) (l0 : List (S54)) (a1_0 : ByteArray) (a1_1 : ByteArray) (a1_2 : ByteArray) (a1_3 : Int) (a1_4 : Int) (a1_5 : Int) (a1_6 : Int) (a1_7 : Bool) (a1_8 : Int) (l1_9 : List (S72)) (l1_10 : List (S110)) (l1_11 : List ByteArray) (l1_12 : List (S112)) (a1_13 : ByteArray) (a1_14 : Int) (a1_15 : Int) (a1_16 : Int) (l1_17 : List (S117)) (l1_18 : List (S74)) (l1_19 : List (S119)) (l1_20 : List (S121)) (l1_21 : List (S123)) (l1_22 : List (S125)) (a1_23 : Int) (a1_24 : Bool) (a1_25 : Int) (a1_26 : Int) (a1_27 : Int) (l1_28 : List (S127)) (a1_29 : Int) (a1_30 : ByteArray) (a1_31 : ByteArray) (a2_0 : ByteArray) (a2_1 : ByteArray) (a2_2 : ByteArray) (a2_3 : Int) (a2_4 : Int) (a2_5 : Int) (a2_6 : Int) (a2_7 : Bool) (a2_8 : Int) (l2_9 : List (S72)) (l2_10 : List (S110)) (l2_11 : List ByteArray) (l2_12 : List (S112)) (a2_13 : ByteArray) (a2_14 : Int) (a2_15 : Int) (a2_16 : Int) (l2_17 : List (S117)) (l2_18 : List (S74)) (l2_19 : List (S119)) (l2_20 : List (S121)) (l2_21 : List (S123)) (l2_22 : List (S125)) (a2_23 : Int) (a2_24 : Bool) (a2_25 : Int) (a2_26 : Int) (a2_27 : Int) (l2_28 : List (S127)) (a2_29 : Int) (a2_30 : ByteArray) (a2_31 : ByteArray) (a3 : Int) : Option (Bool) := (meta_KeyOf.f a1_0 a1_1 a1_2 a1_3 a1_4 a1_5 a1_6 a1_7 a1_8 l1_9 l1_10 l1_11 l1_12).bind fun t216 => ((meta_KeyOf.f a2_0 a2_1 a2_2 a2_3 a2_4 a2_5 a2_6 a2_7 a2_8 l2_9 l2_10 l2_11 l2_12).bind fun t217 => (if t216.toList = t217.toList then (some true) else ((netpolicy_open.f k l0 a1_0 a1_1 a1_2 a1_3 a1_4 a1_5 a1_6 a1_7 a1_8 l1_9 l1_10 l1_11 l1_12 a1_13 a1_14 a1_15 a1_16 l1_17 l1_18 l1_19 l1_20 l1_21 l1_22 a1_23 a1_24 a1_25 a1_26 a1_27 l1_28 a1_29 a1_30 a1_31 a2_0 a2_1 a2_2 a2_3 a2_4 a2_5 a2_6 a2_7 a2_8 l2_9 l2_10 l2_11 l2_12 a2_13 a2_14 a2_15 a2_16 l2_17 l2_18 l2_19 l2_20 l2_21 l2_22 a2_23 a2_24 a2_25 a2_26 a2_27 l2_28 a2_29 a2_30 a2_31 a3 true).bind fun t218 => (if t218 = true then ((netpolicy_open.f k l0 a2_0 a2_1 a2_2 a2_3 a2_4 a2_5 a2_6 a2_7 a2_8 l2_9 l2_10 l2_11 l2_12 a2_13 a2_14 a2_15 a2_16 l2_17 l2_18 l2_19 l2_20 l2_21 l2_22 a2_23 a2_24 a2_25 a2_26 a2_27 l2_28 a2_29 a2_30 a2_31 a1_0 a1_1 a1_2 a1_3 a1_4 a1_5 a1_6 a1_7 a1_8 l1_9 l1_10 l1_11 l1_12 a1_13 a1_14 a1_15 a1_16 l1_17 l1_18 l1_19 l1_20 l1_21 l1_22 a1_23 a1_24 a1_25 a1_26 a1_27 l1_28 a1_29 a1_30 a1_31 a3 false).bind fun t219 => (some t219)) else (some false)))))
theorem netpolicy_Allowed.mono : ∀ a0 a1 a2 a3 a4 a5 a6 a7 a8 a9 a10 a11 a12 a13 a14 a15 a16 a17 a18 a19 a20 a21 a22 a23 a24 a25 a26 a27 a28 a29 a30 a31 a32 a33 a34 a35 a36 a37 a38 a39 a40 a41 a42 a43 a44 a45 a46 a47 a48 a49 a50 a51 a52 a53 a54 a55 a56 a57 a58 a59 a60 a61 a62 a63 a64 a65 k, LeO (netpolicy_Allowed.f k a0 a1 a2 a3 a4 a5 a6 a7 a8 a9 a10 a11 a12 a13 a14 a15 a16 a17 a18 a19 a20 a21 a22 a23 a24 a25 a26 a27 a28 a29 a30 a31 a32 a33 a34 a35 a36 a37 a38 a39 a40 a41 a42 a43 a44 a45 a46 a47 a48 a49 a50 a51 a52 a53 a54 a55 a56 a57 a58 a59 a60 a61 a62 a63 a64 a65) (netpolicy_Allowed.f (k + 1) a0 a1 a2 a3 a4 a5 a6 a7 a8 a9 a10 a11 a12 a13 a14 a15 a16 a17 a18 a19 a20 a21 a22 a23 a24 a25 a26 a27 a28 a29 a30 a31 a32 a33 a34 a35 a36 a37 a38 a39 a40 a41 a42 a43 a44 a45 a46 a47 a48 a49 a50 a51 a52 a53 a54 a55 a56 a57 a58 a59 a60 a61 a62 a63 a64 a65) := by
 intro a0 a1 a2 a3 a4 a5 a6 a7 a8 a9 a10 a11 a12 a13 a14 a15 a16 a17 a18 a19 a20 a21 a22 a23 a24 a25 a26 a27 a28 a29 a30 a31 a32 a33 a34 a35 a36 a37 a38 a39 a40 a41 a42 a43 a44 a45 a46 a47 a48 a49 a50 a51 a52 a53 a54 a55 a56 a57 a58 a59 a60 a61 a62 a63 a64 a65 k
 unfold netpolicy_Allowed.f
 repeat' first
   | (with_reducible exact netpolicy_open.mono _ _ _ _ _ _ _ _ _ _ _ _ _ _ _ _ _ _ _ _ _ _ _ _ _ _ _ _ _ _ _ _ _ _ _ _ _ _ _ _ _ _ _ _ _ _ _ _ _ _ _ _ _ _ _ _ _ _ _ _ _ _ _ _ _ _ _ _)
   | (with_reducible exact LeO.refl _)
   | (with_reducible exact LeO.none _)
   | (with_reducible refine LeO.ite ?_ ?_)
   | (with_reducible refine LeO.bind ?_ (fun _ => ?_))
   | exact netpolicy_open.mono _ _ _ _ _ _ _ _ _ _ _ _ _ _ _ _ _ _ _ _ _ _ _ _ _ _ _ _ _ _ _ _ _ _ _ _ _ _ _ _ _ _ _ _ _ _ _ _ _ _ _ _ _ _ _ _ _ _ _ _ _ _ _ _ _ _ _ _
   | exact LeO.none _
   | refine LeO.ite ?_ ?_
   | refine LeO.bind ?_ (fun _ => ?_)
def netpolicy_Allowed.T1 : Bool × List (List Nat × List Nat) := (true, [([], []), ([0], [0]), ([1], [1]), ([], []), ([3], [3]), ([4, 2], [4]), ([2, 5], [2, 5]), ([6, 5], [6]), ([7], [7]), ([7], [7]), ([7], [7]), ([7], [7]), ([8, 9, 10, 11, 7, 7], [7, 8, 9, 10, 11]), ([12, 12, 7], [7, 12]), ([13], [13]), ([13], [13]), ([13], [13]), ([13], [13]), ([14, 15, 16, 17, 13, 13], [13, 14, 15, 16, 17]), ([13, 18, 7], [7, 13, 18]), ([7, 19], [7, 19]), ([20, 18, 0, 1, 2, 3, 4, 5, 6, 7, 8, 9, 10, 11, 12, 13, 14, 15, 16, 17, 18, 19, 20], [20])])
def netpolicy_Allowed.B1 : List Nat := [0, 1, 3, 0, 8, 31, 63, 127, 255, 255, 255, 255, 4095, 8191, 16383, 16383, 16383, 16383, 262143, 524287, 1048575, 2097151]
theorem netpolicy_Allowed.tab1 : rtab .any (opsOf Try.f11 1) = netpolicy_Allowed.T1 := by kernel_rfl
theorem netpolicy_Allowed.bits1 : waitsOk netpolicy_Allowed.T1.2 netpolicy_Allowed.B1 = true := by kernel_rfl
set_option maxHeartbeats 8000000 in
set_option maxRecDepth 100000 in
theorem netpolicy_Allowed.calls (k : Nat) (A0 : Option Addr) (c0 : Nat) (l0 : List (S54)) (a1_0 : ByteArray) (a1_1 : ByteArray) (a1_2 : ByteArray) (a1_3 : Int) (a1_4 : Int) (a1_5 : Int) (a1_6 : Int) (a1_7 : Bool) (a1_8 : Int) (A1_9 : Option Addr) (c1_9 : Nat) (l1_9 : List (S72)) (A1_10 : Option Addr) (c1_10 : Nat) (l1_10 : List (S110)) (A1_11 : Option Addr) (c1_11 : Nat) (l1_11 : List ByteArray) (A1_12 : Option Addr) (c1_12 : Nat) (l1_12 : List (S112)) (a1_13 : ByteArray) (a1_14 : Int) (a1_15 : Int) (a1_16 : Int) (A1_17 : Option Addr) (c1_17 : Nat) (l1_17 : List (S117)) (A1_18 : Option Addr) (c1_18 : Nat) (l1_18 : List (S74)) (A1_19 : Option Addr) (c1_19 : Nat) (l1_19 : List (S119)) (A1_20 : Option Addr) (c1_20 : Nat) (l1_20 : List (S121)) (A1_21 : Option Addr) (c1_21 : Nat) (l1_21 : List (S123)) (A1_22 : Option Addr) (c1_22 : Nat) (l1_22 : List (S125)) (a1_23 : Int) (a1_24 : Bool) (a1_25 : Int) (a1_26 : Int) (a1_27 : Int) (A1_28 : Option Addr) (c1_28 : Nat) (l1_28 : List (S127)) (a1_29 : Int) (a1_30 : ByteArray) (a1_31 : ByteArray) (a2_0 : ByteArray) (a2_1 : ByteArray) (a2_2 : ByteArray) (a2_3 : Int) (a2_4 : Int) (a2_5 : Int) (a2_6 : Int) (a2_7 : Bool) (a2_8 : Int) (A2_9 : Option Addr) (c2_9 : Nat) (l2_9 : List (S72)) (A2_10 : Option Addr) (c2_10 : Nat) (l2_10 : List (S110)) (A2_11 : Option Addr) (c2_11 : Nat) (l2_11 : List ByteArray) (A2_12 : Option Addr) (c2_12 : Nat) (l2_12 : List (S112)) (a2_13 : ByteArray) (a2_14 : Int) (a2_15 : Int) (a2_16 : Int) (A2_17 : Option Addr) (c2_17 : Nat) (l2_17 : List (S117)) (A2_18 : Option Addr) (c2_18 : Nat) (l2_18 : List (S74)) (A2_19 : Option Addr) (c2_19 : Nat) (l2_19 : List (S119)) (A2_20 : Option Addr) (c2_20 : Nat) (l2_20 : List (S121)) (A2_21 : Option Addr) (c2_21 : Nat) (l2_21 : List (S123)) (A2_22 : Option Addr) (c2_22 : Nat) (l2_22 : List (S125)) (a2_23 : Int) (a2_24 : Bool) (a2_25 : Int) (a2_26 : Int) (a2_27 : Int) (A2_28 : Option Addr) (c2_28 : Nat) (l2_28 : List (S127)) (a2_29 : Int) (a2_30 : ByteArray) (a2_31 : ByteArray) (a3 : Int) (r : Bool) (w : World) (hr0 : Kd.C k54 w A0 l0.length l0) (hc0 : l0.length ≤ c0) (hr1_9 : Kd.C k72 w A1_9 l1_9.length l1_9) (hc1_9 : l1_9.length ≤ c1_9) (hr1_10 : Kd.C k110 w A1_10 l1_10.length l1_10) (hc1_10 : l1_10.length ≤ c1_10) (hr1_11 : Kd.C Kd.string w A1_11 l1_11.length l1_11) (hc1_11 : l1_11.length ≤ c1_11) (hr1_12 : Kd.C k112 w A1_12 l1_12.length l1_12) (hc1_12 : l1_12.length ≤ c1_12) (hr1_17 : Kd.C k117 w A1_17 l1_17.length l1_17) (hc1_17 : l1_17.length ≤ c1_17) (hr1_18 : Kd.C k74 w A1_18 l1_18.length l1_18) (hc1_18 : l1_18.length ≤ c1_18) (hr1_19 : Kd.C k119 w A1_19 l1_19.length l1_19) (hc1_19 : l1_19.length ≤ c1_19) (hr1_20 : Kd.C k121 w A1_20 l1_20.length l1_20) (hc1_20 : l1_20.length ≤ c1_20) (hr1_21 : Kd.C k123 w A1_21 l1_21.length l1_21) (hc1_21 : l1_21.length ≤ c1_21) (hr1_22 : Kd.C k125 w A1_22 l1_22.length l1_22) (hc1_22 : l1_22.length ≤ c1_22) (hr1_28 : Kd.C k127 w A1_28 l1_28.length l1_28) (hc1_28 : l1_28.length ≤ c1_28) (hr2_9 : Kd.C k72 w A2_9 l2_9.length l2_9) (hc2_9 : l2_9.length ≤ c2_9) (hr2_10 : Kd.C k110 w A2_10 l2_10.length l2_10) (hc2_10 : l2_10.length ≤ c2_10) (hr2_11 : Kd.C Kd.string w A2_11 l2_11.length l2_11) (hc2_11 : l2_11.length ≤ c2_11) (hr2_12 : Kd.C k112 w A2_12 l2_12.length l2_12) (hc2_12 : l2_12.length ≤ c2_12) (hr2_17 : Kd.C k117 w A2_17 l2_17.length l2_17) (hc2_17 : l2_17.length ≤ c2_17) (hr2_18 : Kd.C k74 w A2_18 l2_18.length l2_18) (hc2_18 : l2_18.length ≤ c2_18) (hr2_19 : Kd.C k119 w A2_19 l2_19.length l2_19) (hc2_19 : l2_19.length ≤ c2_19) (hr2_20 : Kd.C k121 w A2_20 l2_20.length l2_20) (hc2_20 : l2_20.length ≤ c2_20) (hr2_21 : Kd.C k123 w A2_21 l2_21.length l2_21) (hc2_21 : l2_21.length ≤ c2_21) (hr2_22 : Kd.C k125 w A2_22 l2_22.length l2_22) (hc2_22 : l2_22.length ≤ c2_22) (hr2_28 : Kd.C k127 w A2_28 l2_28.length l2_28) (hc2_28 : l2_28.length ≤ c2_28) (h : netpolicy_Allowed.f k l0 a1_0 a1_1 a1_2 a1_3 a1_4 a1_5 a1_6 a1_7 a1_8 l1_9 l1_10 l1_11 l1_12 a1_13 a1_14 a1_15 a1_16 l1_17 l1_18 l1_19 l1_20 l1_21 l1_22 a1_23 a1_24 a1_25 a1_26 a1_27 l1_28 a1_29 a1_30 a1_31 a2_0 a2_1 a2_2 a2_3 a2_4 a2_5 a2_6 a2_7 a2_8 l2_9 l2_10 l2_11 l2_12 a2_13 a2_14 a2_15 a2_16 l2_17 l2_18 l2_19 l2_20 l2_21 l2_22 a2_23 a2_24 a2_25 a2_26 a2_27 l2_28 a2_29 a2_30 a2_31 a3 = some r) :
  Calls Try.prog 11 #[.slice A0 l0.length c0, .agg #[.string a1_0, .string a1_1, .string a1_2, .int .i64 a1_3, .int .i64 a1_4, .int .i64 a1_5, .int .i64 a1_6, .bool a1_7, .int .i64 a1_8, .slice A1_9 l1_9.length c1_9, .slice A1_10 l1_10.length c1_10, .slice A1_11 l1_11.length c1_11, .slice A1_12 l1_12.length c1_12, .string a1_13, .int .i64 a1_14, .int .i64 a1_15, .int .i64 a1_16, .slice A1_17 l1_17.length c1_17, .slice A1_18 l1_18.length c1_18, .slice A1_19 l1_19.length c1_19, .slice A1_20 l1_20.length c1_20, .slice A1_21 l1_21.length c1_21, .slice A1_22 l1_22.length c1_22, .int .i64 a1_23, .bool a1_24, .int .i64 a1_25, .int .i64 a1_26, .int .i64 a1_27, .slice A1_28 l1_28.length c1_28, .int .i64 a1_29, .string a1_30, .string a1_31], .agg #[.string a2_0, .string a2_1, .string a2_2, .int .i64 a2_3, .int .i64 a2_4, .int .i64 a2_5, .int .i64 a2_6, .bool a2_7, .int .i64 a2_8, .slice A2_9 l2_9.length c2_9, .slice A2_10 l2_10.length c2_10, .slice A2_11 l2_11.length c2_11, .slice A2_12 l2_12.length c2_12, .string a2_13, .int .i64 a2_14, .int .i64 a2_15, .int .i64 a2_16, .slice A2_17 l2_17.length c2_17, .slice A2_18 l2_18.length c2_18, .slice A2_19 l2_19.length c2_19, .slice A2_20 l2_20.length c2_20, .slice A2_21 l2_21.length c2_21, .slice A2_22 l2_22.length c2_22, .int .i64 a2_23, .bool a2_24, .int .i64 a2_25, .int .i64 a2_26, .int .i64 a2_27, .slice A2_28 l2_28.length c2_28, .int .i64 a2_29, .string a2_30, .string a2_31], .int .i64 a3] w fun e w' => e = .returned (.bool r) ∧ Below w.heap.size w w' := by
 have hu41 := Try.underlying41
 have hu28 := Try.underlying28
 have HR0 := s_a hr0
 have HC0 := s_a hc0
 clear hr0 hc0
 have HR1_9 := s_a hr1_9
 have HC1_9 := s_a hc1_9
 clear hr1_9 hc1_9
 have HR1_10 := s_a hr1_10
 have HC1_10 := s_a hc1_10
 clear hr1_10 hc1_10
 have HR1_11 := s_a hr1_11
 have HC1_11 := s_a hc1_11
 clear hr1_11 hc1_11
 have HR1_12 := s_a hr1_12
 have HC1_12 := s_a hc1_12
 clear hr1_12 hc1_12
 have HR1_17 := s_a hr1_17
 have HC1_17 := s_a hc1_17
 clear hr1_17 hc1_17
 have HR1_18 := s_a hr1_18
 have HC1_18 := s_a hc1_18
 clear hr1_18 hc1_18
 have HR1_19 := s_a hr1_19
 have HC1_19 := s_a hc1_19
 clear hr1_19 hc1_19
 have HR1_20 := s_a hr1_20
 have HC1_20 := s_a hc1_20
 clear hr1_20 hc1_20
 have HR1_21 := s_a hr1_21
 have HC1_21 := s_a hc1_21
 clear hr1_21 hc1_21
 have HR1_22 := s_a hr1_22
 have HC1_22 := s_a hc1_22
 clear hr1_22 hc1_22
 have HR1_28 := s_a hr1_28
 have HC1_28 := s_a hc1_28
 clear hr1_28 hc1_28
 have HR2_9 := s_a hr2_9
 have HC2_9 := s_a hc2_9
 clear hr2_9 hc2_9
 have HR2_10 := s_a hr2_10
 have HC2_10 := s_a hc2_10
 clear hr2_10 hc2_10
 have HR2_11 := s_a hr2_11
 have HC2_11 := s_a hc2_11
 clear hr2_11 hc2_11
 have HR2_12 := s_a hr2_12
 have HC2_12 := s_a hc2_12
 clear hr2_12 hc2_12
 have HR2_17 := s_a hr2_17
 have HC2_17 := s_a hc2_17
 clear hr2_17 hc2_17
 have HR2_18 := s_a hr2_18
 have HC2_18 := s_a hc2_18
 clear hr2_18 hc2_18
 have HR2_19 := s_a hr2_19
 have HC2_19 := s_a hc2_19
 clear hr2_19 hc2_19
 have HR2_20 := s_a hr2_20
 have HC2_20 := s_a hc2_20
 clear hr2_20 hc2_20
 have HR2_21 := s_a hr2_21
 have HC2_21 := s_a hc2_21
 clear hr2_21 hc2_21
 have HR2_22 := s_a hr2_22
 have HC2_22 := s_a hc2_22
 clear hr2_22 hc2_22
 have HR2_28 := s_a hr2_28
 have HC2_28 := s_a hc2_28
 clear hr2_28 hc2_28
 have HB := s_a (Below.refl w.heap.size w)
 have H := h; unfold netpolicy_Allowed.f at H
 clear h
 replace H := Option.bind_eq_some_iff.mp H
 obtain ⟨t216, A50, H⟩ := H
 (try dsimp only at H)
 have A5 := s_a A50
 clear A50
 replace H := Option.bind_eq_some_iff.mp H
 obtain ⟨t217, A60, H⟩ := H
 (try dsimp only at H)
 have A6 := s_a A60
 clear A60
 by_cases c7 : t216.toList = t217.toList
 ·rw [if_pos c7] at H
  have c7b0 : (t216.toList == t217.toList) = true := beq_iff_eq.mpr c7
  have c7b1 : (t216.toList != t217.toList) = false := bne_eq_false_iff_eq.mpr c7
  clear c7
  obtain rfl := Option.some.inj H
  go_enter Try.func11, Try.ntmps11
  try go_wp2_with (first | ((with_reducible refine gate_dst (N := 5) rfl ?_); refine box_event ?hg (N := 5) ?hd (cs := #[.string a1_0, .string a1_1, .string a1_2, .int .i64 a1_3, .int .i64 a1_4, .int .i64 a1_5, .int .i64 a1_6, .bool a1_7, .int .i64 a1_8, .slice A1_9 l1_9.length c1_9, .slice A1_10 l1_10.length c1_10, .slice A1_11 l1_11.length c1_11, .slice A1_12 l1_12.length c1_12, .string a1_13, .int .i64 a1_14, .int .i64 a1_15, .int .i64 a1_16, .slice A1_17 l1_17.length c1_17, .slice A1_18 l1_18.length c1_18, .slice A1_19 l1_19.length c1_19, .slice A1_20 l1_20.length c1_20, .slice A1_21 l1_21.length c1_21, .slice A1_22 l1_22.length c1_22, .int .i64 a1_23, .bool a1_24, .int .i64 a1_25, .int .i64 a1_26, .int .i64 a1_27, .slice A1_28 l1_28.length c1_28, .int .i64 a1_29, .string a1_30, .string a1_31]) (t := 41) ?hr ?_; (case hd => rfl); (case hg => rfl); (case hr => first | (go_simp; done) | (go_simp; rfl)); intro gb214 hg w8 hbox hb; have BK214 := s_a (hbox); have GW214 := s_a ((by rw [hg]; exact (below_size (by exact s_b HB.out)) : w.heap.size ≤ gb214)); have GE214 := s_a ((by rw [hg]; exact (below_size (by exact s_b HB.out)) : w.heap.size ≤ gb214)); replace HB := s_a (below_step (by exact s_b HB.out) hb); clear hb hbox hg) | ((with_reducible refine gate_dst (N := 6) rfl ?_); refine box_event ?hg (N := 6) ?hd (cs := #[.string a2_0, .string a2_1, .string a2_2, .int .i64 a2_3, .int .i64 a2_4, .int .i64 a2_5, .int .i64 a2_6, .bool a2_7, .int .i64 a2_8, .slice A2_9 l2_9.length c2_9, .slice A2_10 l2_10.length c2_10, .slice A2_11 l2_11.length c2_11, .slice A2_12 l2_12.length c2_12, .string a2_13, .int .i64 a2_14, .int .i64 a2_15, .int .i64 a2_16, .slice A2_17 l2_17.length c2_17, .slice A2_18 l2_18.length c2_18, .slice A2_19 l2_19.length c2_19, .slice A2_20 l2_20.length c2_20, .slice A2_21 l2_21.length c2_21, .slice A2_22 l2_22.length c2_22, .int .i64 a2_23, .bool a2_24, .int .i64 a2_25, .int .i64 a2_26, .int .i64 a2_27, .slice A2_28 l2_28.length c2_28, .int .i64 a2_29, .string a2_30, .string a2_31]) (t := 41) ?hr ?_; (case hd => rfl); (case hg => rfl); (case hr => first | (go_simp; done) | (go_simp; rfl)); intro gb215 hg w9 hbox hb; have BK215 := s_a (hbox); have GW215 := s_a ((by rw [hg]; exact (below_size (by exact s_b HB.out)) : w.heap.size ≤ gb215)); have GE215 := s_a ((by rw [hg]; exact (below_size (by exact s_b HB.out)) : w.heap.size ≤ gb215)); have NB214_215 := s_a ((by rw [hg]; exact Nat.ne_of_lt (blk_lt (s_k BK214.out)) : gb214 ≠ gb215)); have NB215_214 := s_a ((by rw [hg]; exact Nat.ne_of_gt (blk_lt (s_k BK214.out)) : gb215 ≠ gb214)); replace BK214 := s_a (blk_below (s_k BK214.out) hb); replace HB := s_a (below_step (by exact s_b HB.out) hb); clear hb hbox hg))
  replace BK214 := s_a (blk_drew BK214.out)
  replace BK215 := s_a (blk_drew BK215.out)
  replace HB := s_a (below_drew1 HB.out)
  refine start_ (n := 22) (S := fun w' => w'.cell? ⟨gb214, 0, none⟩ = some (.string a1_0) ∧ w'.cell? ⟨gb214, 1, none⟩ = some (.string a1_1) ∧ w'.cell? ⟨gb214, 2, none⟩ = some (.string a1_2) ∧ w'.cell? ⟨gb214, 3, none⟩ = some (.int .i64 a1_3) ∧ w'.cell? ⟨gb214, 4, none⟩ = some (.int .i64 a1_4) ∧ w'.cell? ⟨gb214, 5, none⟩ = some (.int .i64 a1_5) ∧ w'.cell? ⟨gb214, 6, none⟩ = some (.int .i64 a1_6) ∧ w'.cell? ⟨gb214, 7, none⟩ = some (.bool a1_7) ∧ w'.cell? ⟨gb214, 8, none⟩ = some (.int .i64 a1_8) ∧ w'.cell? ⟨gb214, 9, none⟩ = some (.slice A1_9 l1_9.length c1_9) ∧ w'.cell? ⟨gb214, 10, none⟩ = some (.slice A1_10 l1_10.length c1_10) ∧ w'.cell? ⟨gb214, 11, none⟩ = some (.slice A1_11 l1_11.length c1_11) ∧ w'.cell? ⟨gb214, 12, none⟩ = some (.slice A1_12 l1_12.length c1_12) ∧ w'.cell? ⟨gb215, 0, none⟩ = some (.string a2_0) ∧ w'.cell? ⟨gb215, 1, none⟩ = some (.string a2_1) ∧ w'.cell? ⟨gb215, 2, none⟩ = some (.string a2_2) ∧ w'.cell? ⟨gb215, 3, none⟩ = some (.int .i64 a2_3) ∧ w'.cell? ⟨gb215, 4, none⟩ = some (.int .i64 a2_4) ∧ w'.cell? ⟨gb215, 5, none⟩ = some (.int .i64 a2_5) ∧ w'.cell? ⟨gb215, 6, none⟩ = some (.int .i64 a2_6) ∧ w'.cell? ⟨gb215, 7, none⟩ = some (.bool a2_7) ∧ w'.cell? ⟨gb215, 8, none⟩ = some (.int .i64 a2_8) ∧ w'.cell? ⟨gb215, 9, none⟩ = some (.slice A2_9 l2_9.length c2_9) ∧ w'.cell? ⟨gb215, 10, none⟩ = some (.slice A2_10 l2_10.length c2_10) ∧ w'.cell? ⟨gb215, 11, none⟩ = some (.slice A2_11 l2_11.length c2_11) ∧ w'.cell? ⟨gb215, 12, none⟩ = some (.slice A2_12 l2_12.length c2_12)) (ds := []) (bz 22 0) (by kernel_rfl) rfl rfl ⟨s_x BK214.out 0, s_x BK214.out 1, s_x BK214.out 2, s_x BK214.out 3, s_x BK214.out 4, s_x BK214.out 5, s_x BK214.out 6, s_x BK214.out 7, s_x BK214.out 8, s_x BK214.out 9, s_x BK214.out 10, s_x BK214.out 11, s_x BK214.out 12, s_x BK215.out 0, s_x BK215.out 1, s_x BK215.out 2, s_x BK215.out 3, s_x BK215.out 4, s_x BK215.out 5, s_x BK215.out 6, s_x BK215.out 7, s_x BK215.out 8, s_x BK215.out 9, s_x BK215.out 10, s_x BK215.out 11, s_x BK215.out 12⟩ (fun hHeld => ?_); refine with_tabW netpolicy_Allowed.tab1 netpolicy_Allowed.bits1 (fun HT_ HW_ => ?_)
  generalize w9.drew = w10 at BK214 BK215 HB hHeld ⊢
  refine q_p 0 (some 9) (bz 22 1) (any_of HT_.out (by kernel_rfl)) (v := ?_) ?_ (a' := ?_) ?_ ?_; rotate_left 2
  ·intro w'; go_simp; with_reducible rfl
  ·simp only [Act.put, List.setIfInBounds_toArray, List.set_cons_zero, List.set_cons_succ, i64_w, i32_w]; rfl
  refine q_p 3 (some 12) (bz 22 9) (any_of HT_.out (by kernel_rfl)) (v := ?_) ?_ (a' := ?_) ?_ ?_; rotate_left 2
  ·intro w'; go_simp; with_reducible rfl
  ·simp only [Act.put, List.setIfInBounds_toArray, List.set_cons_zero, List.set_cons_succ, i64_w, i32_w]; rfl
  refine q_t 1 (some 10) (bz 22 11) (take_ofW HT_.out HW_.out (by kernel_rfl)) hHeld (v := ?_) ?_ (a' := ?_) ?_ ?_; rotate_left 2
  ·rintro w' ⟨s0, s1, s2, s3, s4, s5, s6, s7, s8, s9, s10, s11, s12, s13, s14, s15, s16, s17, s18, s19, s20, s21, s22, s23, s24, s25⟩; (refine (s_ld rfl 28 (.tmp 9) ?_ _ ?_ _ _ (cells_at s0 (s_cc s1 (s_cc s2 (s_cc s3 (s_cc s4 (s_cc s5 (s_cc s6 (s_cc s7 (s_cc s8 (s_cc s9 (s_cc s10 (s_cc s11 (s_cc s12 s_cn))))))))))))) Try.underlying28 (by rfl) sz28).trans ?_ <;> first | (with_reducible rfl) | rfl)
  ·simp only [Act.put, List.setIfInBounds_toArray, List.set_cons_zero, List.set_cons_succ, i64_w, i32_w]; rfl
  refine q_t 4 (some 13) (bz 22 27) (take_ofW HT_.out HW_.out (by kernel_rfl)) hHeld (v := ?_) ?_ (a' := ?_) ?_ ?_; rotate_left 2
  ·rintro w' ⟨s0, s1, s2, s3, s4, s5, s6, s7, s8, s9, s10, s11, s12, s13, s14, s15, s16, s17, s18, s19, s20, s21, s22, s23, s24, s25⟩; (refine (s_ld rfl 28 (.tmp 12) ?_ _ ?_ _ _ (cells_at s13 (s_cc s14 (s_cc s15 (s_cc s16 (s_cc s17 (s_cc s18 (s_cc s19 (s_cc s20 (s_cc s21 (s_cc s22 (s_cc s23 (s_cc s24 (s_cc s25 s_cn))))))))))))) Try.underlying28 (by rfl) sz28).trans ?_ <;> first | (with_reducible rfl) | rfl)
  ·simp only [Act.put, List.setIfInBounds_toArray, List.set_cons_zero, List.set_cons_succ, i64_w, i32_w]; rfl
  refine one_ (i := 2) (N := some 11) (bz 22 31) rfl rfl (one_of HT_.out (by kernel_rfl)) (by decide) (fun K hK => ?_)
  refine goes_ Try.func22 (by kernel_rfl) rfl #[.agg #[.string a1_0, .string a1_1, .string a1_2, .int .i64 a1_3, .int .i64 a1_4, .int .i64 a1_5, .int .i64 a1_6, .bool a1_7, .int .i64 a1_8, .slice A1_9 l1_9.length c1_9, .slice A1_10 l1_10.length c1_10, .slice A1_11 l1_11.length c1_11, .slice A1_12 l1_12.length c1_12]] (by rfl) rfl rfl (by (try simp only [List.map_toArray, List.map_cons, List.map_nil]); first | done | rfl | (simp only [List.length_drop, List.length_take]; rfl)) ?_
  with_reducible refine (meta_KeyOf.calls _ _ _ _ _ _ _ _ _ _ _ _ _ _ _ _ _ _ _ _ _ _ _ ?side1 ?side2 ?side3 ?side4 ?side5 ?side6 ?side7 ?side8 A5.out).mono ?_
  (case side1 => exact s_D HR1_9.out HB.out)
  (case side2 => exact HC1_9.out)
  (case side3 => exact s_D HR1_10.out HB.out)
  (case side4 => exact HC1_10.out)
  (case side5 => exact s_D HR1_11.out HB.out)
  (case side6 => exact HC1_11.out)
  (case side7 => exact s_D HR1_12.out HB.out)
  (case side8 => exact HC1_12.out)
  rintro e w11 ⟨rfl, hb⟩
  refine ⟨_, rfl, ?_⟩
  replace BK214 := s_a (blk_below (s_k BK214.out) hb)
  replace BK215 := s_a (blk_below (s_k BK215.out) hb)
  replace HB := s_a (below_step (by exact s_b HB.out) hb)
  (try clear hb)
  refine hK.out _ _ ⟨s_x BK214.out 0, s_x BK214.out 1, s_x BK214.out 2, s_x BK214.out 3, s_x BK214.out 4, s_x BK214.out 5, s_x BK214.out 6, s_x BK214.out 7, s_x BK214.out 8, s_x BK214.out 9, s_x BK214.out 10, s_x BK214.out 11, s_x BK214.out 12, s_x BK215.out 0, s_x BK215.out 1, s_x BK215.out 2, s_x BK215.out 3, s_x BK215.out 4, s_x BK215.out 5, s_x BK215.out 6, s_x BK215.out 7, s_x BK215.out 8, s_x BK215.out 9, s_x BK215.out 10, s_x BK215.out 11, s_x BK215.out 12⟩ (fun hHeld => ?_)
  clear hK K
  refine norm_ (a' := ?_) ?_ ?_
  rotate_left
  ·show Act.put _ (some 11) _ = _
   simp only [Act.put, List.setIfInBounds_toArray, List.set_cons_zero, List.set_cons_succ, i64_w, i32_w]
   rfl
  refine one_ (i := 5) (N := some 14) (bz 22 63) rfl rfl (one_of HT_.out (by kernel_rfl)) (by decide) (fun K hK => ?_)
  refine goes_ Try.func22 (by kernel_rfl) rfl #[.agg #[.string a2_0, .string a2_1, .string a2_2, .int .i64 a2_3, .int .i64 a2_4, .int .i64 a2_5, .int .i64 a2_6, .bool a2_7, .int .i64 a2_8, .slice A2_9 l2_9.length c2_9, .slice A2_10 l2_10.length c2_10, .slice A2_11 l2_11.length c2_11, .slice A2_12 l2_12.length c2_12]] (by rfl) rfl rfl (by (try simp only [List.map_toArray, List.map_cons, List.map_nil]); first | done | rfl | (simp only [List.length_drop, List.length_take]; rfl)) ?_
  with_reducible refine (meta_KeyOf.calls _ _ _ _ _ _ _ _ _ _ _ _ _ _ _ _ _ _ _ _ _ _ _ ?side1 ?side2 ?side3 ?side4 ?side5 ?side6 ?side7 ?side8 A6.out).mono ?_
  (case side1 => exact s_D HR2_9.out HB.out)
  (case side2 => exact HC2_9.out)
  (case side3 => exact s_D HR2_10.out HB.out)
  (case side4 => exact HC2_10.out)
  (case side5 => exact s_D HR2_11.out HB.out)
  (case side6 => exact HC2_11.out)
  (case side7 => exact s_D HR2_12.out HB.out)
  (case side8 => exact HC2_12.out)
  rintro e w12 ⟨rfl, hb⟩
  refine ⟨_, rfl, ?_⟩
  replace BK214 := s_a (blk_below (s_k BK214.out) hb)
  replace BK215 := s_a (blk_below (s_k BK215.out) hb)
  replace HB := s_a (below_step (by exact s_b HB.out) hb)
  (try clear hb)
  refine hK.out _ _ ⟨s_x BK214.out 0, s_x BK214.out 1, s_x BK214.out 2, s_x BK214.out 3, s_x BK214.out 4, s_x BK214.out 5, s_x BK214.out 6, s_x BK214.out 7, s_x BK214.out 8, s_x BK214.out 9, s_x BK214.out 10, s_x BK214.out 11, s_x BK214.out 12, s_x BK215.out 0, s_x BK215.out 1, s_x BK215.out 2, s_x BK215.out 3, s_x BK215.out 4, s_x BK215.out 5, s_x BK215.out 6, s_x BK215.out 7, s_x BK215.out 8, s_x BK215.out 9, s_x BK215.out 10, s_x BK215.out 11, s_x BK215.out 12⟩ (fun hHeld => ?_)
  clear hK K
  refine norm_ (a' := ?_) ?_ ?_
  rotate_left
  ·show Act.put _ (some 14) _ = _
   simp only [Act.put, List.setIfInBounds_toArray, List.set_cons_zero, List.set_cons_succ, i64_w, i32_w]
   rfl
  refine q_p 6 (some 15) (bz 22 127) (any_of HT_.out (by kernel_rfl)) (v := ?_) ?_ (a' := ?_) ?_ ?_; rotate_left 2
  ·intro w'; go_simp; with_reducible rfl
  ·simp only [Act.put, List.setIfInBounds_toArray, List.set_cons_zero, List.set_cons_succ, i64_w, i32_w]; rfl
  refine q_p 7 (some 16) (bz 22 255) (any_of HT_.out (by kernel_rfl)) (v := ?_) ?_ (a' := ?_) ?_ ?_; rotate_left 2
  ·intro w'; go_simp; with_reducible rfl
  ·simp only [Act.put, List.setIfInBounds_toArray, List.set_cons_zero, List.set_cons_succ, i64_w, i32_w]; rfl
  refine q_o 8 (some 17) (bz 22 511) (any_of HT_.out (by kernel_rfl)) (a' := ?_) ?_ ?_; rotate_left
  ·simp only [Act.put, List.setIfInBounds_toArray, List.set_cons_zero, List.set_cons_succ, i64_w, i32_w]; rfl
  refine q_o 9 (some 18) (bz 22 1023) (any_of HT_.out (by kernel_rfl)) (a' := ?_) ?_ ?_; rotate_left
  ·simp only [Act.put, List.setIfInBounds_toArray, List.set_cons_zero, List.set_cons_succ, i64_w, i32_w]; rfl
  refine q_o 10 (some 19) (bz 22 2047) (any_of HT_.out (by kernel_rfl)) (a' := ?_) ?_ ?_; rotate_left
  ·simp only [Act.put, List.setIfInBounds_toArray, List.set_cons_zero, List.set_cons_succ, i64_w, i32_w]; rfl
  refine q_o 11 (some 20) (bz 22 4095) (any_of HT_.out (by kernel_rfl)) (a' := ?_) ?_ ?_; rotate_left
  ·simp only [Act.put, List.setIfInBounds_toArray, List.set_cons_zero, List.set_cons_succ, i64_w, i32_w]; rfl
  refine q_o 12 (some 21) (bz 22 8191) (any_of HT_.out (by kernel_rfl)) (a' := ?_) ?_ ?_; rotate_left
  ·simp only [Act.put, List.setIfInBounds_toArray, List.set_cons_zero, List.set_cons_succ, i64_w, i32_w]; rfl
  refine q_o 13 (some 22) (bz 22 16383) (any_of HT_.out (by kernel_rfl)) (a' := ?_) ?_ ?_; rotate_left
  ·simp only [Act.put, List.setIfInBounds_toArray, List.set_cons_zero, List.set_cons_succ, i64_w, i32_w]; rfl
  refine q_o 14 (some 23) (bz 22 32767) (any_of HT_.out (by kernel_rfl)) (a' := ?_) ?_ ?_; rotate_left
  ·simp only [Act.put, List.setIfInBounds_toArray, List.set_cons_zero, List.set_cons_succ, i64_w, i32_w]; rfl
  refine q_o 15 (some 24) (bz 22 65535) (any_of HT_.out (by kernel_rfl)) (a' := ?_) ?_ ?_; rotate_left
  ·simp only [Act.put, List.setIfInBounds_toArray, List.set_cons_zero, List.set_cons_succ, i64_w, i32_w]; rfl
  refine q_o 16 (some 25) (bz 22 131071) (any_of HT_.out (by kernel_rfl)) (a' := ?_) ?_ ?_; rotate_left
  ·simp only [Act.put, List.setIfInBounds_toArray, List.set_cons_zero, List.set_cons_succ, i64_w, i32_w]; rfl
  refine q_o 17 (some 26) (bz 22 262143) (any_of HT_.out (by kernel_rfl)) (a' := ?_) ?_ ?_; rotate_left
  ·simp only [Act.put, List.setIfInBounds_toArray, List.set_cons_zero, List.set_cons_succ, i64_w, i32_w]; rfl
  refine q_o 18 (some 27) (bz 22 524287) (any_of HT_.out (by kernel_rfl)) (a' := ?_) ?_ ?_; rotate_left
  ·simp only [Act.put, List.setIfInBounds_toArray, List.set_cons_zero, List.set_cons_succ, i64_w, i32_w]; rfl
  refine q_o 19 (some 28) (bz 22 1048575) (any_of HT_.out (by kernel_rfl)) (a' := ?_) ?_ ?_; rotate_left
  ·simp only [Act.put, List.setIfInBounds_toArray, List.set_cons_zero, List.set_cons_succ, i64_w, i32_w]; rfl
  refine q_p 20 (some 29) (bz 22 2097151) (any_of HT_.out (by kernel_rfl)) (v := ?_) ?_ (a' := ?_) ?_ ?_; rotate_left 2
  ·intro w'; go_simp; with_reducible rfl
  ·simp only [Act.put, List.setIfInBounds_toArray, List.set_cons_zero, List.set_cons_succ, i64_w, i32_w]; rfl
  refine q_p 21 (some 8) (bz 22 4194303) (any_of HT_.out (by kernel_rfl)) (v := ?_) ?_ (a' := ?_) ?_ ?_; rotate_left 2
  ·intro w'; go_simp; with_reducible rfl
  ·simp only [Act.put, List.setIfInBounds_toArray, List.set_cons_zero, List.set_cons_succ, i64_w, i32_w]; rfl
  refine done_ (done_of HT_.out (by kernel_rfl)) ?_
  try go_wp2
  go_ret
  exact ⟨by first | rfl | (simp [errW_none, errW_some] <;> rfl) | (simp [*, errW_none, errW_some] <;> rfl), by exact s_b HB.out⟩
 ·rw [if_neg c7] at H
  have c7b0 : (t216.toList == t217.toList) = false := beq_eq_false_iff_ne.mpr c7
  have c7b1 : (t216.toList != t217.toList) = true := bne_iff_ne.mpr c7
  replace H := Option.bind_eq_some_iff.mp H
  obtain ⟨t218, A130, H⟩ := H
  (try dsimp only at H)
  have A13 := s_a A130
  clear A130
  by_cases c14 : t218 = true
  ·subst c14
   (try rw [if_pos rfl] at H)
   replace H := Option.bind_eq_some_iff.mp H
   obtain ⟨t219, A150, H⟩ := H
   replace H : (some t219) = some r := H
   have A15 := s_a A150
   clear A150
   obtain rfl := Option.some.inj H
   go_enter Try.func11, Try.ntmps11
   try go_wp2_with (first | ((with_reducible refine gate_dst (N := 5) rfl ?_); refine box_event ?hg (N := 5) ?hd (cs := #[.string a1_0, .string a1_1, .string a1_2, .int .i64 a1_3, .int .i64 a1_4, .int .i64 a1_5, .int .i64 a1_6, .bool a1_7, .int .i64 a1_8, .slice A1_9 l1_9.length c1_9, .slice A1_10 l1_10.length c1_10, .slice A1_11 l1_11.length c1_11, .slice A1_12 l1_12.length c1_12, .string a1_13, .int .i64 a1_14, .int .i64 a1_15, .int .i64 a1_16, .slice A1_17 l1_17.length c1_17, .slice A1_18 l1_18.length c1_18, .slice A1_19 l1_19.length c1_19, .slice A1_20 l1_20.length c1_20, .slice A1_21 l1_21.length c1_21, .slice A1_22 l1_22.length c1_22, .int .i64 a1_23, .bool a1_24, .int .i64 a1_25, .int .i64 a1_26, .int .i64 a1_27, .slice A1_28 l1_28.length c1_28, .int .i64 a1_29, .string a1_30, .string a1_31]) (t := 41) ?hr ?_; (case hd => rfl); (case hg => rfl); (case hr => first | (go_simp; done) | (go_simp; rfl)); intro gb214 hg w16 hbox hb; have BK214 := s_a (hbox); have GW214 := s_a ((by rw [hg]; exact (below_size (by exact s_b HB.out)) : w.heap.size ≤ gb214)); have GE214 := s_a ((by rw [hg]; exact (below_size (by exact s_b HB.out)) : w.heap.size ≤ gb214)); replace HB := s_a (below_step (by exact s_b HB.out) hb); clear hb hbox hg) | ((with_reducible refine gate_dst (N := 6) rfl ?_); refine box_event ?hg (N := 6) ?hd (cs := #[.string a2_0, .string a2_1, .string a2_2, .int .i64 a2_3, .int .i64 a2_4, .int .i64 a2_5, .int .i64 a2_6, .bool a2_7, .int .i64 a2_8, .slice A2_9 l2_9.length c2_9, .slice A2_10 l2_10.length c2_10, .slice A2_11 l2_11.length c2_11, .slice A2_12 l2_12.length c2_12, .string a2_13, .int .i64 a2_14, .int .i64 a2_15, .int .i64 a2_16, .slice A2_17 l2_17.length c2_17, .slice A2_18 l2_18.length c2_18, .slice A2_19 l2_19.length c2_19, .slice A2_20 l2_20.length c2_20, .slice A2_21 l2_21.length c2_21, .slice A2_22 l2_22.length c2_22, .int .i64 a2_23, .bool a2_24, .int .i64 a2_25, .int .i64 a2_26, .int .i64 a2_27, .slice A2_28 l2_28.length c2_28, .int .i64 a2_29, .string a2_30, .string a2_31]) (t := 41) ?hr ?_; (case hd => rfl); (case hg => rfl); (case hr => first | (go_simp; done) | (go_simp; rfl)); intro gb215 hg w17 hbox hb; have BK215 := s_a (hbox); have GW215 := s_a ((by rw [hg]; exact (below_size (by exact s_b HB.out)) : w.heap.size ≤ gb215)); have GE215 := s_a ((by rw [hg]; exact (below_size (by exact s_b HB.out)) : w.heap.size ≤ gb215)); have NB214_215 := s_a ((by rw [hg]; exact Nat.ne_of_lt (blk_lt (s_k BK214.out)) : gb214 ≠ gb215)); have NB215_214 := s_a ((by rw [hg]; exact Nat.ne_of_gt (blk_lt (s_k BK214.out)) : gb215 ≠ gb214)); replace BK214 := s_a (blk_below (s_k BK214.out) hb); replace HB := s_a (below_step (by exact s_b HB.out) hb); clear hb hbox hg))
   replace BK214 := s_a (blk_drew BK214.out)
   replace BK215 := s_a (blk_drew BK215.out)
   replace HB := s_a (below_drew1 HB.out)
   refine start_ (n := 22) (S := fun w' => w'.cell? ⟨gb214, 0, none⟩ = some (.string a1_0) ∧ w'.cell? ⟨gb214, 1, none⟩ = some (.string a1_1) ∧ w'.cell? ⟨gb214, 2, none⟩ = some (.string a1_2) ∧ w'.cell? ⟨gb214, 3, none⟩ = some (.int .i64 a1_3) ∧ w'.cell? ⟨gb214, 4, none⟩ = some (.int .i64 a1_4) ∧ w'.cell? ⟨gb214, 5, none⟩ = some (.int .i64 a1_5) ∧ w'.cell? ⟨gb214, 6, none⟩ = some (.int .i64 a1_6) ∧ w'.cell? ⟨gb214, 7, none⟩ = some (.bool a1_7) ∧ w'.cell? ⟨gb214, 8, none⟩ = some (.int .i64 a1_8) ∧ w'.cell? ⟨gb214, 9, none⟩ = some (.slice A1_9 l1_9.length c1_9) ∧ w'.cell? ⟨gb214, 10, none⟩ = some (.slice A1_10 l1_10.length c1_10) ∧ w'.cell? ⟨gb214, 11, none⟩ = some (.slice A1_11 l1_11.length c1_11) ∧ w'.cell? ⟨gb214, 12, none⟩ = some (.slice A1_12 l1_12.length c1_12) ∧ w'.cell? ⟨gb214, 13, none⟩ = some (.string a1_13) ∧ w'.cell? ⟨gb214, 14, none⟩ = some (.int .i64 a1_14) ∧ w'.cell? ⟨gb214, 15, none⟩ = some (.int .i64 a1_15) ∧ w'.cell? ⟨gb214, 16, none⟩ = some (.int .i64 a1_16) ∧ w'.cell? ⟨gb214, 17, none⟩ = some (.slice A1_17 l1_17.length c1_17) ∧ w'.cell? ⟨gb214, 18, none⟩ = some (.slice A1_18 l1_18.length c1_18) ∧ w'.cell? ⟨gb214, 19, none⟩ = some (.slice A1_19 l1_19.length c1_19) ∧ w'.cell? ⟨gb214, 20, none⟩ = some (.slice A1_20 l1_20.length c1_20) ∧ w'.cell? ⟨gb214, 21, none⟩ = some (.slice A1_21 l1_21.length c1_21) ∧ w'.cell? ⟨gb214, 22, none⟩ = some (.slice A1_22 l1_22.length c1_22) ∧ w'.cell? ⟨gb214, 23, none⟩ = some (.int .i64 a1_23) ∧ w'.cell? ⟨gb214, 24, none⟩ = some (.bool a1_24) ∧ w'.cell? ⟨gb214, 25, none⟩ = some (.int .i64 a1_25) ∧ w'.cell? ⟨gb214, 26, none⟩ = some (.int .i64 a1_26) ∧ w'.cell? ⟨gb214, 27, none⟩ = some (.int .i64 a1_27) ∧ w'.cell? ⟨gb214, 28, none⟩ = some (.slice A1_28 l1_28.length c1_28) ∧ w'.cell? ⟨gb214, 29, none⟩ = some (.int .i64 a1_29) ∧ w'.cell? ⟨gb214, 30, none⟩ = some (.string a1_30) ∧ w'.cell? ⟨gb214, 31, none⟩ = some (.string a1_31) ∧ w'.cell? ⟨gb215, 0, none⟩ = some (.string a2_0) ∧ w'.cell? ⟨gb215, 1, none⟩ = some (.string a2_1) ∧ w'.cell? ⟨gb215, 2, none⟩ = some (.string a2_2) ∧ w'.cell? ⟨gb215, 3, none⟩ = some (.int .i64 a2_3) ∧ w'.cell? ⟨gb215, 4, none⟩ = some (.int .i64 a2_4) ∧ w'.cell? ⟨gb215, 5, none⟩ = some (.int .i64 a2_5) ∧ w'.cell? ⟨gb215, 6, none⟩ = some (.int .i64 a2_6) ∧ w'.cell? ⟨gb215, 7, none⟩ = some (.bool a2_7) ∧ w'.cell? ⟨gb215, 8, none⟩ = some (.int .i64 a2_8) ∧ w'.cell? ⟨gb215, 9, none⟩ = some (.slice A2_9 l2_9.length c2_9) ∧ w'.cell? ⟨gb215, 10, none⟩ = some (.slice A2_10 l2_10.length c2_10) ∧ w'.cell? ⟨gb215, 11, none⟩ = some (.slice A2_11 l2_11.length c2_11) ∧ w'.cell? ⟨gb215, 12, none⟩ = some (.slice A2_12 l2_12.length c2_12) ∧ w'.cell? ⟨gb215, 13, none⟩ = some (.string a2_13) ∧ w'.cell? ⟨gb215, 14, none⟩ = some (.int .i64 a2_14) ∧ w'.cell? ⟨gb215, 15, none⟩ = some (.int .i64 a2_15) ∧ w'.cell? ⟨gb215, 16, none⟩ = some (.int .i64 a2_16) ∧ w'.cell? ⟨gb215, 17, none⟩ = some (.slice A2_17 l2_17.length c2_17) ∧ w'.cell? ⟨gb215, 18, none⟩ = some (.slice A2_18 l2_18.length c2_18) ∧ w'.cell? ⟨gb215, 19, none⟩ = some (.slice A2_19 l2_19.length c2_19) ∧ w'.cell? ⟨gb215, 20, none⟩ = some (.slice A2_20 l2_20.length c2_20) ∧ w'.cell? ⟨gb215, 21, none⟩ = some (.slice A2_21 l2_21.length c2_21) ∧ w'.cell? ⟨gb215, 22, none⟩ = some (.slice A2_22 l2_22.length c2_22) ∧ w'.cell? ⟨gb215, 23, none⟩ = some (.int .i64 a2_23) ∧ w'.cell? ⟨gb215, 24, none⟩ = some (.bool a2_24) ∧ w'.cell? ⟨gb215, 25, none⟩ = some (.int .i64 a2_25) ∧ w'.cell? ⟨gb215, 26, none⟩ = some (.int .i64 a2_26) ∧ w'.cell? ⟨gb215, 27, none⟩ = some (.int .i64 a2_27) ∧ w'.cell? ⟨gb215, 28, none⟩ = some (.slice A2_28 l2_28.length c2_28) ∧ w'.cell? ⟨gb215, 29, none⟩ = some (.int .i64 a2_29) ∧ w'.cell? ⟨gb215, 30, none⟩ = some (.string a2_30) ∧ w'.cell? ⟨gb215, 31, none⟩ = some (.string a2_31)) (ds := []) (bz 22 0) (by kernel_rfl) rfl rfl ⟨s_x BK214.out 0, s_x BK214.out 1, s_x BK214.out 2, s_x BK214.out 3, s_x BK214.out 4, s_x BK214.out 5, s_x BK214.out 6, s_x BK214.out 7, s_x BK214.out 8, s_x BK214.out 9, s_x BK214.out 10, s_x BK214.out 11, s_x BK214.out 12, s_x BK214.out 13, s_x BK214.out 14, s_x BK214.out 15, s_x BK214.out 16, s_x BK214.out 17, s_x BK214.out 18, s_x BK214.out 19, s_x BK214.out 20, s_x BK214.out 21, s_x BK214.out 22, s_x BK214.out 23, s_x BK214.out 24, s_x BK214.out 25, s_x BK214.out 26, s_x BK214.out 27, s_x BK214.out 28, s_x BK214.out 29, s_x BK214.out 30, s_x BK214.out 31, s_x BK215.out 0, s_x BK215.out 1, s_x BK215.out 2, s_x BK215.out 3, s_x BK215.out 4, s_x BK215.out 5, s_x BK215.out 6, s_x BK215.out 7, s_x BK215.out 8, s_x BK215.out 9, s_x BK215.out 10, s_x BK215.out 11, s_x BK215.out 12, s_x BK215.out 13, s_x BK215.out 14, s_x BK215.out 15, s_x BK215.out 16, s_x BK215.out 17, s_x BK215.out 18, s_x BK215.out 19, s_x BK215.out 20, s_x BK215.out 21, s_x BK215.out 22, s_x BK215.out 23, s_x BK215.out 24, s_x BK215.out 25, s_x BK215.out 26, s_x BK215.out 27, s_x BK215.out 28, s_x BK215.out 29, s_x BK215.out 30, s_x BK215.out 31⟩ (fun hHeld => ?_); refine with_tabW netpolicy_Allowed.tab1 netpolicy_Allowed.bits1 (fun HT_ HW_ => ?_)
   generalize w17.drew = w18 at BK214 BK215 HB hHeld ⊢
   refine q_p 0 (some 9) (bz 22 1) (any_of HT_.out (by kernel_rfl)) (v := ?_) ?_ (a' := ?_) ?_ ?_; rotate_left 2
   ·intro w'; go_simp; with_reducible rfl
   ·simp only [Act.put, List.setIfInBounds_toArray, List.set_cons_zero, List.set_cons_succ, i64_w, i32_w]; rfl
   refine q_p 3 (some 12) (bz 22 9) (any_of HT_.out (by kernel_rfl)) (v := ?_) ?_ (a' := ?_) ?_ ?_; rotate_left 2
   ·intro w'; go_simp; with_reducible rfl
   ·simp only [Act.put, List.setIfInBounds_toArray, List.set_cons_zero, List.set_cons_succ, i64_w, i32_w]; rfl
   refine q_t 1 (some 10) (bz 22 11) (take_ofW HT_.out HW_.out (by kernel_rfl)) hHeld (v := ?_) ?_ (a' := ?_) ?_ ?_; rotate_left 2
   ·rintro w' ⟨s0, s1, s2, s3, s4, s5, s6, s7, s8, s9, s10, s11, s12, s13, s14, s15, s16, s17, s18, s19, s20, s21, s22, s23, s24, s25, s26, s27, s28, s29, s30, s31, s32, s33, s34, s35, s36, s37, s38, s39, s40, s41, s42, s43, s44, s45, s46, s47, s48, s49, s50, s51, s52, s53, s54, s55, s56, s57, s58, s59, s60, s61, s62, s63⟩; (refine (s_ld rfl 28 (.tmp 9) ?_ _ ?_ _ _ (cells_at s0 (s_cc s1 (s_cc s2 (s_cc s3 (s_cc s4 (s_cc s5 (s_cc s6 (s_cc s7 (s_cc s8 (s_cc s9 (s_cc s10 (s_cc s11 (s_cc s12 s_cn))))))))))))) Try.underlying28 (by rfl) sz28).trans ?_ <;> first | (with_reducible rfl) | rfl)
   ·simp only [Act.put, List.setIfInBounds_toArray, List.set_cons_zero, List.set_cons_succ, i64_w, i32_w]; rfl
   refine q_t 4 (some 13) (bz 22 27) (take_ofW HT_.out HW_.out (by kernel_rfl)) hHeld (v := ?_) ?_ (a' := ?_) ?_ ?_; rotate_left 2
   ·rintro w' ⟨s0, s1, s2, s3, s4, s5, s6, s7, s8, s9, s10, s11, s12, s13, s14, s15, s16, s17, s18, s19, s20, s21, s22, s23, s24, s25, s26, s27, s28, s29, s30, s31, s32, s33, s34, s35, s36, s37, s38, s39, s40, s41, s42, s43, s44, s45, s46, s47, s48, s49, s50, s51, s52, s53, s54, s55, s56, s57, s58, s59, s60, s61, s62, s63⟩; (refine (s_ld rfl 28 (.tmp 12) ?_ _ ?_ _ _ (cells_at s32 (s_cc s33 (s_cc s34 (s_cc s35 (s_cc s36 (s_cc s37 (s_cc s38 (s_cc s39 (s_cc s40 (s_cc s41 (s_cc s42 (s_cc s43 (s_cc s44 s_cn))))))))))))) Try.underlying28 (by rfl) sz28).trans ?_ <;> first | (with_reducible rfl) | rfl)
   ·simp only [Act.put, List.setIfInBounds_toArray, List.set_cons_zero, List.set_cons_succ, i64_w, i32_w]; rfl
   refine one_ (i := 2) (N := some 11) (bz 22 31) rfl rfl (one_of HT_.out (by kernel_rfl)) (by decide) (fun K hK => ?_)
   refine goes_ Try.func22 (by kernel_rfl) rfl #[.agg #[.string a1_0, .string a1_1, .string a1_2, .int .i64 a1_3, .int .i64 a1_4, .int .i64 a1_5, .int .i64 a1_6, .bool a1_7, .int .i64 a1_8, .slice A1_9 l1_9.length c1_9, .slice A1_10 l1_10.length c1_10, .slice A1_11 l1_11.length c1_11, .slice A1_12 l1_12.length c1_12]] (by rfl) rfl rfl (by (try simp only [List.map_toArray, List.map_cons, List.map_nil]); first | done | rfl | (simp only [List.length_drop, List.length_take]; rfl)) ?_
   with_reducible refine (meta_KeyOf.calls _ _ _ _ _ _ _ _ _ _ _ _ _ _ _ _ _ _ _ _ _ _ _ ?side1 ?side2 ?side3 ?side4 ?side5 ?side6 ?side7 ?side8 A5.out).mono ?_
   (case side1 => exact s_D HR1_9.out HB.out)
   (case side2 => exact HC1_9.out)
   (case side3 => exact s_D HR1_10.out HB.out)
   (case side4 => exact HC1_10.out)
   (case side5 => exact s_D HR1_11.out HB.out)
   (case side6 => exact HC1_11.out)
   (case side7 => exact s_D HR1_12.out HB.out)
   (case side8 => exact HC1_12.out)
   rintro e w19 ⟨rfl, hb⟩
   refine ⟨_, rfl, ?_⟩
   replace BK214 := s_a (blk_below (s_k BK214.out) hb)
   replace BK215 := s_a (blk_below (s_k BK215.out) hb)
   replace HB := s_a (below_step (by exact s_b HB.out) hb)
   (try clear hb)
   refine hK.out _ _ ⟨s_x BK214.out 0, s_x BK214.out 1, s_x BK214.out 2, s_x BK214.out 3, s_x BK214.out 4, s_x BK214.out 5, s_x BK214.out 6, s_x BK214.out 7, s_x BK214.out 8, s_x BK214.out 9, s_x BK214.out 10, s_x BK214.out 11, s_x BK214.out 12, s_x BK214.out 13, s_x BK214.out 14, s_x BK214.out 15, s_x BK214.out 16, s_x BK214.out 17, s_x BK214.out 18, s_x BK214.out 19, s_x BK214.out 20, s_x BK214.out 21, s_x BK214.out 22, s_x BK214.out 23, s_x BK214.out 24, s_x BK214.out 25, s_x BK214.out 26, s_x BK214.out 27, s_x BK214.out 28, s_x BK214.out 29, s_x BK214.out 30, s_x BK214.out 31, s_x BK215.out 0, s_x BK215.out 1, s_x BK215.out 2, s_x BK215.out 3, s_x BK215.out 4, s_x BK215.out 5, s_x BK215.out 6, s_x BK215.out 7, s_x BK215.out 8, s_x BK215.out 9, s_x BK215.out 10, s_x BK215.out 11, s_x BK215.out 12, s_x BK215.out 13, s_x BK215.out 14, s_x BK215.out 15, s_x BK215.out 16, s_x BK215.out 17, s_x BK215.out 18, s_x BK215.out 19, s_x BK215.out 20, s_x BK215.out 21, s_x BK215.out 22, s_x BK215.out 23, s_x BK215.out 24, s_x BK215.out 25, s_x BK215.out 26, s_x BK215.out 27, s_x BK215.out 28, s_x BK215.out 29, s_x BK215.out 30, s_x BK215.out 31⟩ (fun hHeld => ?_)
   clear hK K
   refine norm_ (a' := ?_) ?_ ?_
   rotate_left
   ·show Act.put _ (some 11) _ = _
    simp only [Act.put, List.setIfInBounds_toArray, List.set_cons_zero, List.set_cons_succ, i64_w, i32_w]
    rfl
   refine one_ (i := 5) (N := some 14) (bz 22 63) rfl rfl (one_of HT_.out (by kernel_rfl)) (by decide) (fun K hK => ?_)
   refine goes_ Try.func22 (by kernel_rfl) rfl #[.agg #[.string a2_0, .string a2_1, .string a2_2, .int .i64 a2_3, .int .i64 a2_4, .int .i64 a2_5, .int .i64 a2_6, .bool a2_7, .int .i64 a2_8, .slice A2_9 l2_9.length c2_9, .slice A2_10 l2_10.length c2_10, .slice A2_11 l2_11.length c2_11, .slice A2_12 l2_12.length c2_12]] (by rfl) rfl rfl (by (try simp only [List.map_toArray, List.map_cons, List.map_nil]); first | done | rfl | (simp only [List.length_drop, List.length_take]; rfl)) ?_
   with_reducible refine (meta_KeyOf.calls _ _ _ _ _ _ _ _ _ _ _ _ _ _ _ _ _ _ _ _ _ _ _ ?side1 ?side2 ?side3 ?side4 ?side5 ?side6 ?side7 ?side8 A6.out).mono ?_
   (case side1 => exact s_D HR2_9.out HB.out)
   (case side2 => exact HC2_9.out)
   (case side3 => exact s_D HR2_10.out HB.out)
   (case side4 => exact HC2_10.out)
   (case side5 => exact s_D HR2_11.out HB.out)
   (case side6 => exact HC2_11.out)
   (case side7 => exact s_D HR2_12.out HB.out)
   (case side8 => exact HC2_12.out)
   rintro e w20 ⟨rfl, hb⟩
   refine ⟨_, rfl, ?_⟩
   replace BK214 := s_a (blk_below (s_k BK214.out) hb)
   replace BK215 := s_a (blk_below (s_k BK215.out) hb)
   replace HB := s_a (below_step (by exact s_b HB.out) hb)
   (try clear hb)
   refine hK.out _ _ ⟨s_x BK214.out 0, s_x BK214.out 1, s_x BK214.out 2, s_x BK214.out 3, s_x BK214.out 4, s_x BK214.out 5, s_x BK214.out 6, s_x BK214.out 7, s_x BK214.out 8, s_x BK214.out 9, s_x BK214.out 10, s_x BK214.out 11, s_x BK214.out 12, s_x BK214.out 13, s_x BK214.out 14, s_x BK214.out 15, s_x BK214.out 16, s_x BK214.out 17, s_x BK214.out 18, s_x BK214.out 19, s_x BK214.out 20, s_x BK214.out 21, s_x BK214.out 22, s_x BK214.out 23, s_x BK214.out 24, s_x BK214.out 25, s_x BK214.out 26, s_x BK214.out 27, s_x BK214.out 28, s_x BK214.out 29, s_x BK214.out 30, s_x BK214.out 31, s_x BK215.out 0, s_x BK215.out 1, s_x BK215.out 2, s_x BK215.out 3, s_x BK215.out 4, s_x BK215.out 5, s_x BK215.out 6, s_x BK215.out 7, s_x BK215.out 8, s_x BK215.out 9, s_x BK215.out 10, s_x BK215.out 11, s_x BK215.out 12, s_x BK215.out 13, s_x BK215.out 14, s_x BK215.out 15, s_x BK215.out 16, s_x BK215.out 17, s_x BK215.out 18, s_x BK215.out 19, s_x BK215.out 20, s_x BK215.out 21, s_x BK215.out 22, s_x BK215.out 23, s_x BK215.out 24, s_x BK215.out 25, s_x BK215.out 26, s_x BK215.out 27, s_x BK215.out 28, s_x BK215.out 29, s_x BK215.out 30, s_x BK215.out 31⟩ (fun hHeld => ?_)
   clear hK K
   refine norm_ (a' := ?_) ?_ ?_
   rotate_left
   ·show Act.put _ (some 14) _ = _
    simp only [Act.put, List.setIfInBounds_toArray, List.set_cons_zero, List.set_cons_succ, i64_w, i32_w]
    rfl
   refine q_p 6 (some 15) (bz 22 127) (any_of HT_.out (by kernel_rfl)) (v := ?_) ?_ (a' := ?_) ?_ ?_; rotate_left 2
   ·intro w'; go_simp; with_reducible rfl
   ·simp only [Act.put, List.setIfInBounds_toArray, List.set_cons_zero, List.set_cons_succ, i64_w, i32_w]; rfl
   refine q_p 7 (some 16) (bz 22 255) (any_of HT_.out (by kernel_rfl)) (v := ?_) ?_ (a' := ?_) ?_ ?_; rotate_left 2
   ·intro w'; go_simp; with_reducible rfl
   ·simp only [Act.put, List.setIfInBounds_toArray, List.set_cons_zero, List.set_cons_succ, i64_w, i32_w]; rfl
   refine q_p 8 (some 17) (bz 22 511) (any_of HT_.out (by kernel_rfl)) (v := ?_) ?_ (a' := ?_) ?_ ?_; rotate_left 2
   ·intro w'; go_simp; with_reducible rfl
   ·simp only [Act.put, List.setIfInBounds_toArray, List.set_cons_zero, List.set_cons_succ, i64_w, i32_w]; rfl
   refine q_p 11 (some 20) (bz 22 2559) (any_of HT_.out (by kernel_rfl)) (v := ?_) ?_ (a' := ?_) ?_ ?_; rotate_left 2
   ·intro w'; go_simp; with_reducible rfl
   ·simp only [Act.put, List.setIfInBounds_toArray, List.set_cons_zero, List.set_cons_succ, i64_w, i32_w]; rfl
   refine q_t 9 (some 18) (bz 22 3071) (take_ofW HT_.out HW_.out (by kernel_rfl)) hHeld (v := ?_) ?_ (a' := ?_) ?_ ?_; rotate_left 2
   ·rintro w' ⟨s0, s1, s2, s3, s4, s5, s6, s7, s8, s9, s10, s11, s12, s13, s14, s15, s16, s17, s18, s19, s20, s21, s22, s23, s24, s25, s26, s27, s28, s29, s30, s31, s32, s33, s34, s35, s36, s37, s38, s39, s40, s41, s42, s43, s44, s45, s46, s47, s48, s49, s50, s51, s52, s53, s54, s55, s56, s57, s58, s59, s60, s61, s62, s63⟩; (refine (s_ld rfl 41 (.tmp 5) ?_ _ ?_ _ _ (cells_at s0 (s_cc s1 (s_cc s2 (s_cc s3 (s_cc s4 (s_cc s5 (s_cc s6 (s_cc s7 (s_cc s8 (s_cc s9 (s_cc s10 (s_cc s11 (s_cc s12 (s_cc s13 (s_cc s14 (s_cc s15 (s_cc s16 (s_cc s17 (s_cc s18 (s_cc s19 (s_cc s20 (s_cc s21 (s_cc s22 (s_cc s23 (s_cc s24 (s_cc s25 (s_cc s26 (s_cc s27 (s_cc s28 (s_cc s29 (s_cc s30 (s_cc s31 s_cn)))))))))))))))))))))))))))))))) Try.underlying41 (by rfl) sz41).trans ?_ <;> first | (with_reducible rfl) | rfl)
   ·simp only [Act.put, List.setIfInBounds_toArray, List.set_cons_zero, List.set_cons_succ, i64_w, i32_w]; rfl
   refine q_t 10 (some 19) (bz 22 4095) (take_ofW HT_.out HW_.out (by kernel_rfl)) hHeld (v := ?_) ?_ (a' := ?_) ?_ ?_; rotate_left 2
   ·rintro w' ⟨s0, s1, s2, s3, s4, s5, s6, s7, s8, s9, s10, s11, s12, s13, s14, s15, s16, s17, s18, s19, s20, s21, s22, s23, s24, s25, s26, s27, s28, s29, s30, s31, s32, s33, s34, s35, s36, s37, s38, s39, s40, s41, s42, s43, s44, s45, s46, s47, s48, s49, s50, s51, s52, s53, s54, s55, s56, s57, s58, s59, s60, s61, s62, s63⟩; (refine (s_ld rfl 41 (.tmp 6) ?_ _ ?_ _ _ (cells_at s32 (s_cc s33 (s_cc s34 (s_cc s35 (s_cc s36 (s_cc s37 (s_cc s38 (s_cc s39 (s_cc s40 (s_cc s41 (s_cc s42 (s_cc s43 (s_cc s44 (s_cc s45 (s_cc s46 (s_cc s47 (s_cc s48 (s_cc s49 (s_cc s50 (s_cc s51 (s_cc s52 (s_cc s53 (s_cc s54 (s_cc s55 (s_cc s56 (s_cc s57 (s_cc s58 (s_cc s59 (s_cc s60 (s_cc s61 (s_cc s62 (s_cc s63 s_cn)))))))))))))))))))))))))))))))) Try.underlying41 (by rfl) sz41).trans ?_ <;> first | (with_reducible rfl) | rfl)
   ·simp only [Act.put, List.setIfInBounds_toArray, List.set_cons_zero, List.set_cons_succ, i64_w, i32_w]; rfl
   refine one_ (i := 12) (N := some 21) (bz 22 8191) rfl rfl (one_of HT_.out (by kernel_rfl)) (by decide) (fun K hK => ?_)
   refine goes_ Try.func23 (by kernel_rfl) rfl #[.slice A0 l0.length c0, .agg #[.string a1_0, .string a1_1, .string a1_2, .int .i64 a1_3, .int .i64 a1_4, .int .i64 a1_5, .int .i64 a1_6, .bool a1_7, .int .i64 a1_8, .slice A1_9 l1_9.length c1_9, .slice A1_10 l1_10.length c1_10, .slice A1_11 l1_11.length c1_11, .slice A1_12 l1_12.length c1_12, .string a1_13, .int .i64 a1_14, .int .i64 a1_15, .int .i64 a1_16, .slice A1_17 l1_17.length c1_17, .slice A1_18 l1_18.length c1_18, .slice A1_19 l1_19.length c1_19, .slice A1_20 l1_20.length c1_20, .slice A1_21 l1_21.length c1_21, .slice A1_22 l1_22.length c1_22, .int .i64 a1_23, .bool a1_24, .int .i64 a1_25, .int .i64 a1_26, .int .i64 a1_27, .slice A1_28 l1_28.length c1_28, .int .i64 a1_29, .string a1_30, .string a1_31], .agg #[.string a2_0, .string a2_1, .string a2_2, .int .i64 a2_3, .int .i64 a2_4, .int .i64 a2_5, .int .i64 a2_6, .bool a2_7, .int .i64 a2_8, .slice A2_9 l2_9.length c2_9, .slice A2_10 l2_10.length c2_10, .slice A2_11 l2_11.length c2_11, .slice A2_12 l2_12.length c2_12, .string a2_13, .int .i64 a2_14, .int .i64 a2_15, .int .i64 a2_16, .slice A2_17 l2_17.length c2_17, .slice A2_18 l2_18.length c2_18, .slice A2_19 l2_19.length c2_19, .slice A2_20 l2_20.length c2_20, .slice A2_21 l2_21.length c2_21, .slice A2_22 l2_22.length c2_22, .int .i64 a2_23, .bool a2_24, .int .i64 a2_25, .int .i64 a2_26, .int .i64 a2_27, .slice A2_28 l2_28.length c2_28, .int .i64 a2_29, .string a2_30, .string a2_31], .int .i64 a3, .bool true] (by rfl) rfl rfl (by (try simp only [List.map_toArray, List.map_cons, List.map_nil]); first | done | rfl | (simp only [List.length_drop, List.length_take]; rfl)) ?_
   with_reducible refine (netpolicy_open.calls k _ _ _ _ _ _ _ _ _ _ _ _ _ _ _ _ _ _ _ _ _ _ _ _ _ _ _ _ _ _ _ _ _ _ _ _ _ _ _ _ _ _ _ _ _ _ _ _ _ _ _ _ _ _ _ _ _ _ _ _ _ _ _ _ _ _ _ _ _ _ _ _ _ _ _ _ _ _ _ _ _ _ _ _ _ _ _ _ _ _ _ _ _ _ _ _ _ _ _ _ _ _ _ _ _ _ _ _ _ _ _ _ _ _ _ ?side1 ?side2 ?side3 ?side4 ?side5 ?side6 ?side7 ?side8 ?side9 ?side10 ?side11 ?side12 ?side13 ?side14 ?side15 ?side16 ?side17 ?side18 ?side19 ?side20 ?side21 ?side22 ?side23 ?side24 ?side25 ?side26 ?side27 ?side28 ?side29 ?side30 ?side31 ?side32 ?side33 ?side34 ?side35 ?side36 ?side37 ?side38 ?side39 ?side40 ?side41 ?side42 ?side43 ?side44 ?side45 ?side46 A13.out).mono ?_
   (case side1 => exact s_D HR0.out HB.out)
   (case side2 => exact HC0.out)
   (case side3 => exact s_D HR1_9.out HB.out)
   (case side4 => exact HC1_9.out)
   (case side5 => exact s_D HR1_10.out HB.out)
   (case side6 => exact HC1_10.out)
   (case side7 => exact s_D HR1_11.out HB.out)
   (case side8 => exact HC1_11.out)
   (case side9 => exact s_D HR1_12.out HB.out)
   (case side10 => exact HC1_12.out)
   (case side11 => exact s_D HR1_17.out HB.out)
   (case side12 => exact HC1_17.out)
   (case side13 => exact s_D HR1_18.out HB.out)
   (case side14 => exact HC1_18.out)
   (case side15 => exact s_D HR1_19.out HB.out)
   (case side16 => exact HC1_19.out)
   (case side17 => exact s_D HR1_20.out HB.out)
   (case side18 => exact HC1_20.out)
   (case side19 => exact s_D HR1_21.out HB.out)
   (case side20 => exact HC1_21.out)
   (case side21 => exact s_D HR1_22.out HB.out)
   (case side22 => exact HC1_22.out)
   (case side23 => exact s_D HR1_28.out HB.out)
   (case side24 => exact HC1_28.out)
   (case side25 => exact s_D HR2_9.out HB.out)
   (case side26 => exact HC2_9.out)
   (case side27 => exact s_D HR2_10.out HB.out)
   (case side28 => exact HC2_10.out)
   (case side29 => exact s_D HR2_11.out HB.out)
   (case side30 => exact HC2_11.out)
   (case side31 => exact s_D HR2_12.out HB.out)
   (case side32 => exact HC2_12.out)
   (case side33 => exact s_D HR2_17.out HB.out)
   (case side34 => exact HC2_17.out)
   (case side35 => exact s_D HR2_18.out HB.out)
   (case side36 => exact HC2_18.out)
   (case side37 => exact s_D HR2_19.out HB.out)
   (case side38 => exact HC2_19.out)
   (case side39 => exact s_D HR2_20.out HB.out)
   (case side40 => exact HC2_20.out)
   (case side41 => exact s_D HR2_21.out HB.out)
   (case side42 => exact HC2_21.out)
   (case side43 => exact s_D HR2_22.out HB.out)
   (case side44 => exact HC2_22.out)
   (case side45 => exact s_D HR2_28.out HB.out)
   (case side46 => exact HC2_28.out)
   rintro e w21 ⟨rfl, hb⟩
   refine ⟨_, rfl, ?_⟩
   replace BK214 := s_a (blk_below (s_k BK214.out) hb)
   replace BK215 := s_a (blk_below (s_k BK215.out) hb)
   replace HB := s_a (below_step (by exact s_b HB.out) hb)
   (try clear hb)
   refine hK.out _ _ ⟨s_x BK214.out 0, s_x BK214.out 1, s_x BK214.out 2, s_x BK214.out 3, s_x BK214.out 4, s_x BK214.out 5, s_x BK214.out 6, s_x BK214.out 7, s_x BK214.out 8, s_x BK214.out 9, s_x BK214.out 10, s_x BK214.out 11, s_x BK214.out 12, s_x BK214.out 13, s_x BK214.out 14, s_x BK214.out 15, s_x BK214.out 16, s_x BK214.out 17, s_x BK214.out 18, s_x BK214.out 19, s_x BK214.out 20, s_x BK214.out 21, s_x BK214.out 22, s_x BK214.out 23, s_x BK214.out 24, s_x BK214.out 25, s_x BK214.out 26, s_x BK214.out 27, s_x BK214.out 28, s_x BK214.out 29, s_x BK214.out 30, s_x BK214.out 31, s_x BK215.out 0, s_x BK215.out 1, s_x BK215.out 2, s_x BK215.out 3, s_x BK215.out 4, s_x BK215.out 5, s_x BK215.out 6, s_x BK215.out 7, s_x BK215.out 8, s_x BK215.out 9, s_x BK215.out 10, s_x BK215.out 11, s_x BK215.out 12, s_x BK215.out 13, s_x BK215.out 14, s_x BK215.out 15, s_x BK215.out 16, s_x BK215.out 17, s_x BK215.out 18, s_x BK215.out 19, s_x BK215.out 20, s_x BK215.out 21, s_x BK215.out 22, s_x BK215.out 23, s_x BK215.out 24, s_x BK215.out 25, s_x BK215.out 26, s_x BK215.out 27, s_x BK215.out 28, s_x BK215.out 29, s_x BK215.out 30, s_x BK215.out 31⟩ (fun hHeld => ?_)
   clear hK K
   refine norm_ (a' := ?_) ?_ ?_
   rotate_left
   ·show Act.put _ (some 21) _ = _
    simp only [Act.put, List.setIfInBounds_toArray, List.set_cons_zero, List.set_cons_succ, i64_w, i32_w]
    rfl
   refine q_p 13 (some 22) (bz 22 16383) (any_of HT_.out (by kernel_rfl)) (v := ?_) ?_ (a' := ?_) ?_ ?_; rotate_left 2
   ·intro w'; go_simp; with_reducible rfl
   ·simp only [Act.put, List.setIfInBounds_toArray, List.set_cons_zero, List.set_cons_succ, i64_w, i32_w]; rfl
   refine q_p 14 (some 23) (bz 22 32767) (any_of HT_.out (by kernel_rfl)) (v := ?_) ?_ (a' := ?_) ?_ ?_; rotate_left 2
   ·intro w'; go_simp; with_reducible rfl
   ·simp only [Act.put, List.setIfInBounds_toArray, List.set_cons_zero, List.set_cons_succ, i64_w, i32_w]; rfl
   refine q_p 17 (some 26) (bz 22 163839) (any_of HT_.out (by kernel_rfl)) (v := ?_) ?_ (a' := ?_) ?_ ?_; rotate_left 2
   ·intro w'; go_simp; with_reducible rfl
   ·simp only [Act.put, List.setIfInBounds_toArray, List.set_cons_zero, List.set_cons_succ, i64_w, i32_w]; rfl
   refine q_t 15 (some 24) (bz 22 196607) (take_ofW HT_.out HW_.out (by kernel_rfl)) hHeld (v := ?_) ?_ (a' := ?_) ?_ ?_; rotate_left 2
   ·rintro w' ⟨s0, s1, s2, s3, s4, s5, s6, s7, s8, s9, s10, s11, s12, s13, s14, s15, s16, s17, s18, s19, s20, s21, s22, s23, s24, s25, s26, s27, s28, s29, s30, s31, s32, s33, s34, s35, s36, s37, s38, s39, s40, s41, s42, s43, s44, s45, s46, s47, s48, s49, s50, s51, s52, s53, s54, s55, s56, s57, s58, s59, s60, s61, s62, s63⟩; (refine (s_ld rfl 41 (.tmp 6) ?_ _ ?_ _ _ (cells_at s32 (s_cc s33 (s_cc s34 (s_cc s35 (s_cc s36 (s_cc s37 (s_cc s38 (s_cc s39 (s_cc s40 (s_cc s41 (s_cc s42 (s_cc s43 (s_cc s44 (s_cc s45 (s_cc s46 (s_cc s47 (s_cc s48 (s_cc s49 (s_cc s50 (s_cc s51 (s_cc s52 (s_cc s53 (s_cc s54 (s_cc s55 (s_cc s56 (s_cc s57 (s_cc s58 (s_cc s59 (s_cc s60 (s_cc s61 (s_cc s62 (s_cc s63 s_cn)))))))))))))))))))))))))))))))) Try.underlying41 (by rfl) sz41).trans ?_ <;> first | (with_reducible rfl) | rfl)
   ·simp only [Act.put, List.setIfInBounds_toArray, List.set_cons_zero, List.set_cons_succ, i64_w, i32_w]; rfl
   refine q_t 16 (some 25) (bz 22 262143) (take_ofW HT_.out HW_.out (by kernel_rfl)) hHeld (v := ?_) ?_ (a' := ?_) ?_ ?_; rotate_left 2
   ·rintro w' ⟨s0, s1, s2, s3, s4, s5, s6, s7, s8, s9, s10, s11, s12, s13, s14, s15, s16, s17, s18, s19, s20, s21, s22, s23, s24, s25, s26, s27, s28, s29, s30, s31, s32, s33, s34, s35, s36, s37, s38, s39, s40, s41, s42, s43, s44, s45, s46, s47, s48, s49, s50, s51, s52, s53, s54, s55, s56, s57, s58, s59, s60, s61, s62, s63⟩; (refine (s_ld rfl 41 (.tmp 5) ?_ _ ?_ _ _ (cells_at s0 (s_cc s1 (s_cc s2 (s_cc s3 (s_cc s4 (s_cc s5 (s_cc s6 (s_cc s7 (s_cc s8 (s_cc s9 (s_cc s10 (s_cc s11 (s_cc s12 (s_cc s13 (s_cc s14 (s_cc s15 (s_cc s16 (s_cc s17 (s_cc s18 (s_cc s19 (s_cc s20 (s_cc s21 (s_cc s22 (s_cc s23 (s_cc s24 (s_cc s25 (s_cc s26 (s_cc s27 (s_cc s28 (s_cc s29 (s_cc s30 (s_cc s31 s_cn)))))))))))))))))))))))))))))))) Try.underlying41 (by rfl) sz41).trans ?_ <;> first | (with_reducible rfl) | rfl)
   ·simp only [Act.put, List.setIfInBounds_toArray, List.set_cons_zero, List.set_cons_succ, i64_w, i32_w]; rfl
   refine one_ (i := 18) (N := some 27) (bz 22 524287) rfl rfl (one_of HT_.out (by kernel_rfl)) (by decide) (fun K hK => ?_)
   refine goes_ Try.func23 (by kernel_rfl) rfl #[.slice A0 l0.length c0, .agg #[.string a2_0, .string a2_1, .string a2_2, .int .i64 a2_3, .int .i64 a2_4, .int .i64 a2_5, .int .i64 a2_6, .bool a2_7, .int .i64 a2_8, .slice A2_9 l2_9.length c2_9, .slice A2_10 l2_10.length c2_10, .slice A2_11 l2_11.length c2_11, .slice A2_12 l2_12.length c2_12, .string a2_13, .int .i64 a2_14, .int .i64 a2_15, .int .i64 a2_16, .slice A2_17 l2_17.length c2_17, .slice A2_18 l2_18.length c2_18, .slice A2_19 l2_19.length c2_19, .slice A2_20 l2_20.length c2_20, .slice A2_21 l2_21.length c2_21, .slice A2_22 l2_22.length c2_22, .int .i64 a2_23, .bool a2_24, .int .i64 a2_25, .int .i64 a2_26, .int .i64 a2_27, .slice A2_28 l2_28.length c2_28, .int .i64 a2_29, .string a2_30, .string a2_31], .agg #[.string a1_0, .string a1_1, .string a1_2, .int .i64 a1_3, .int .i64 a1_4, .int .i64 a1_5, .int .i64 a1_6, .bool a1_7, .int .i64 a1_8, .slice A1_9 l1_9.length c1_9, .slice A1_10 l1_10.length c1_10, .slice A1_11 l1_11.length c1_11, .slice A1_12 l1_12.length c1_12, .string a1_13, .int .i64 a1_14, .int .i64 a1_15, .int .i64 a1_16, .slice A1_17 l1_17.length c1_17, .slice A1_18 l1_18.length c1_18, .slice A1_19 l1_19.length c1_19, .slice A1_20 l1_20.length c1_20, .slice A1_21 l1_21.length c1_21, .slice A1_22 l1_22.length c1_22, .int .i64 a1_23, .bool a1_24, .int .i64 a1_25, .int .i64 a1_26, .int .i64 a1_27, .slice A1_28 l1_28.length c1_28, .int .i64 a1_29, .string a1_30, .string a1_31], .int .i64 a3, .bool false] (by rfl) rfl rfl (by (try simp only [List.map_toArray, List.map_cons, List.map_nil]); first | done | rfl | (simp only [List.length_drop, List.length_take]; rfl)) ?_
   with_reducible refine (netpolicy_open.calls k _ _ _ _ _ _ _ _ _ _ _ _ _ _ _ _ _ _ _ _ _ _ _ _ _ _ _ _ _ _ _ _ _ _ _ _ _ _ _ _ _ _ _ _ _ _ _ _ _ _ _ _ _ _ _ _ _ _ _ _ _ _ _ _ _ _ _ _ _ _ _ _ _ _ _ _ _ _ _ _ _ _ _ _ _ _ _ _ _ _ _ _ _ _ _ _ _ _ _ _ _ _ _ _ _ _ _ _ _ _ _ _ _ _ _ ?side1 ?side2 ?side3 ?side4 ?side5 ?side6 ?side7 ?side8 ?side9 ?side10 ?side11 ?side12 ?side13 ?side14 ?side15 ?side16 ?side17 ?side18 ?side19 ?side20 ?side21 ?side22 ?side23 ?side24 ?side25 ?side26 ?side27 ?side28 ?side29 ?side30 ?side31 ?side32 ?side33 ?side34 ?side35 ?side36 ?side37 ?side38 ?side39 ?side40 ?side41 ?side42 ?side43 ?side44 ?side45 ?side46 A15.out).mono ?_
   (case side1 => exact s_D HR0.out HB.out)
   (case side2 => exact HC0.out)
   (case side3 => exact s_D HR2_9.out HB.out)
   (case side4 => exact HC2_9.out)
   (case side5 => exact s_D HR2_10.out HB.out)
   (case side6 => exact HC2_10.out)
   (case side7 => exact s_D HR2_11.out HB.out)
   (case side8 => exact HC2_11.out)
   (case side9 => exact s_D HR2_12.out HB.out)
   (case side10 => exact HC2_12.out)
   (case side11 => exact s_D HR2_17.out HB.out)
   (case side12 => exact HC2_17.out)
   (case side13 => exact s_D HR2_18.out HB.out)
   (case side14 => exact HC2_18.out)
   (case side15 => exact s_D HR2_19.out HB.out)
   (case side16 => exact HC2_19.out)
   (case side17 => exact s_D HR2_20.out HB.out)
   (case side18 => exact HC2_20.out)
   (case side19 => exact s_D HR2_21.out HB.out)
   (case side20 => exact HC2_21.out)
   (case side21 => exact s_D HR2_22.out HB.out)
   (case side22 => exact HC2_22.out)
   (case side23 => exact s_D HR2_28.out HB.out)
   (case side24 => exact HC2_28.out)
   (case side25 => exact s_D HR1_9.out HB.out)
   (case side26 => exact HC1_9.out)
   (case side27 => exact s_D HR1_10.out HB.out)
   (case side28 => exact HC1_10.out)
   (case side29 => exact s_D HR1_11.out HB.out)
   (case side30 => exact HC1_11.out)
   (case side31 => exact s_D HR1_12.out HB.out)
   (case side32 => exact HC1_12.out)
   (case side33 => exact s_D HR1_17.out HB.out)
   (case side34 => exact HC1_17.out)
   (case side35 => exact s_D HR1_18.out HB.out)
   (case side36 => exact HC1_18.out)
   (case side37 => exact s_D HR1_19.out HB.out)
   (case side38 => exact HC1_19.out)
   (case side39 => exact s_D HR1_20.out HB.out)
   (case side40 => exact HC1_20.out)
   (case side41 => exact s_D HR1_21.out HB.out)
   (case side42 => exact HC1_21.out)
   (case side43 => exact s_D HR1_22.out HB.out)
   (case side44 => exact HC1_22.out)
   (case side45 => exact s_D HR1_28.out HB.out)
   (case side46 => exact HC1_28.out)
   rintro e w22 ⟨rfl, hb⟩
   refine ⟨_, rfl, ?_⟩
   replace BK214 := s_a (blk_below (s_k BK214.out) hb)
   replace BK215 := s_a (blk_below (s_k BK215.out) hb)
   replace HB := s_a (below_step (by exact s_b HB.out) hb)
   (try clear hb)
   refine hK.out _ _ ⟨s_x BK214.out 0, s_x BK214.out 1, s_x BK214.out 2, s_x BK214.out 3, s_x BK214.out 4, s_x BK214.out 5, s_x BK214.out 6, s_x BK214.out 7, s_x BK214.out 8, s_x BK214.out 9, s_x BK214.out 10, s_x BK214.out 11, s_x BK214.out 12, s_x BK214.out 13, s_x BK214.out 14, s_x BK214.out 15, s_x BK214.out 16, s_x BK214.out 17, s_x BK214.out 18, s_x BK214.out 19, s_x BK214.out 20, s_x BK214.out 21, s_x BK214.out 22, s_x BK214.out 23, s_x BK214.out 24, s_x BK214.out 25, s_x BK214.out 26, s_x BK214.out 27, s_x BK214.out 28, s_x BK214.out 29, s_x BK214.out 30, s_x BK214.out 31, s_x BK215.out 0, s_x BK215.out 1, s_x BK215.out 2, s_x BK215.out 3, s_x BK215.out 4, s_x BK215.out 5, s_x BK215.out 6, s_x BK215.out 7, s_x BK215.out 8, s_x BK215.out 9, s_x BK215.out 10, s_x BK215.out 11, s_x BK215.out 12, s_x BK215.out 13, s_x BK215.out 14, s_x BK215.out 15, s_x BK215.out 16, s_x BK215.out 17, s_x BK215.out 18, s_x BK215.out 19, s_x BK215.out 20, s_x BK215.out 21, s_x BK215.out 22, s_x BK215.out 23, s_x BK215.out 24, s_x BK215.out 25, s_x BK215.out 26, s_x BK215.out 27, s_x BK215.out 28, s_x BK215.out 29, s_x BK215.out 30, s_x BK215.out 31⟩ (fun hHeld => ?_)
   clear hK K
   refine norm_ (a' := ?_) ?_ ?_
   rotate_left
   ·show Act.put _ (some 27) _ = _
    simp only [Act.put, List.setIfInBounds_toArray, List.set_cons_zero, List.set_cons_succ, i64_w, i32_w]
    rfl
   refine q_p 19 (some 28) (bz 22 1048575) (any_of HT_.out (by kernel_rfl)) (v := ?_) ?_ (a' := ?_) ?_ ?_; rotate_left 2
   ·intro w'; go_simp; with_reducible rfl
   ·simp only [Act.put, List.setIfInBounds_toArray, List.set_cons_zero, List.set_cons_succ, i64_w, i32_w]; rfl
   refine q_p 20 (some 29) (bz 22 2097151) (any_of HT_.out (by kernel_rfl)) (v := ?_) ?_ (a' := ?_) ?_ ?_; rotate_left 2
   ·intro w'; go_simp; with_reducible rfl
   ·simp only [Act.put, List.setIfInBounds_toArray, List.set_cons_zero, List.set_cons_succ, i64_w, i32_w]; rfl
   refine q_p 21 (some 8) (bz 22 4194303) (any_of HT_.out (by kernel_rfl)) (v := ?_) ?_ (a' := ?_) ?_ ?_; rotate_left 2
   ·intro w'; go_simp; with_reducible rfl
   ·simp only [Act.put, List.setIfInBounds_toArray, List.set_cons_zero, List.set_cons_succ, i64_w, i32_w]; rfl
   refine done_ (done_of HT_.out (by kernel_rfl)) ?_
   try go_wp2
   go_ret
   exact ⟨by first | rfl | (simp [errW_none, errW_some] <;> rfl) | (simp [*, errW_none, errW_some] <;> rfl), by exact s_b HB.out⟩
  ·replace c14 := Bool.eq_false_iff.mpr c14
   subst c14
   (try rw [if_neg (show ¬ (false = true) by decide)] at H)
   obtain rfl := Option.some.inj H
   go_enter Try.func11, Try.ntmps11
   try go_wp2_with (first | ((with_reducible refine gate_dst (N := 5) rfl ?_); refine box_event ?hg (N := 5) ?hd (cs := #[.string a1_0, .string a1_1, .string a1_2, .int .i64 a1_3, .int .i64 a1_4, .int .i64 a1_5, .int .i64 a1_6, .bool a1_7, .int .i64 a1_8, .slice A1_9 l1_9.length c1_9, .slice A1_10 l1_10.length c1_10, .slice A1_11 l1_11.length c1_11, .slice A1_12 l1_12.length c1_12, .string a1_13, .int .i64 a1_14, .int .i64 a1_15, .int .i64 a1_16, .slice A1_17 l1_17.length c1_17, .slice A1_18 l1_18.length c1_18, .slice A1_19 l1_19.length c1_19, .slice A1_20 l1_20.length c1_20, .slice A1_21 l1_21.length c1_21, .slice A1_22 l1_22.length c1_22, .int .i64 a1_23, .bool a1_24, .int .i64 a1_25, .int .i64 a1_26, .int .i64 a1_27, .slice A1_28 l1_28.length c1_28, .int .i64 a1_29, .string a1_30, .string a1_31]) (t := 41) ?hr ?_; (case hd => rfl); (case hg => rfl); (case hr => first | (go_simp; done) | (go_simp; rfl)); intro gb214 hg w23 hbox hb; have BK214 := s_a (hbox); have GW214 := s_a ((by rw [hg]; exact (below_size (by exact s_b HB.out)) : w.heap.size ≤ gb214)); have GE214 := s_a ((by rw [hg]; exact (below_size (by exact s_b HB.out)) : w.heap.size ≤ gb214)); replace HB := s_a (below_step (by exact s_b HB.out) hb); clear hb hbox hg) | ((with_reducible refine gate_dst (N := 6) rfl ?_); refine box_event ?hg (N := 6) ?hd (cs := #[.string a2_0, .string a2_1, .string a2_2, .int .i64 a2_3, .int .i64 a2_4, .int .i64 a2_5, .int .i64 a2_6, .bool a2_7, .int .i64 a2_8, .slice A2_9 l2_9.length c2_9, .slice A2_10 l2_10.length c2_10, .slice A2_11 l2_11.length c2_11, .slice A2_12 l2_12.length c2_12, .string a2_13, .int .i64 a2_14, .int .i64 a2_15, .int .i64 a2_16, .slice A2_17 l2_17.length c2_17, .slice A2_18 l2_18.length c2_18, .slice A2_19 l2_19.length c2_19, .slice A2_20 l2_20.length c2_20, .slice A2_21 l2_21.length c2_21, .slice A2_22 l2_22.length c2_22, .int .i64 a2_23, .bool a2_24, .int .i64 a2_25, .int .i64 a2_26, .int .i64 a2_27, .slice A2_28 l2_28.length c2_28, .int .i64 a2_29, .string a2_30, .string a2_31]) (t := 41) ?hr ?_; (case hd => rfl); (case hg => rfl); (case hr => first | (go_simp; done) | (go_simp; rfl)); intro gb215 hg w24 hbox hb; have BK215 := s_a (hbox); have GW215 := s_a ((by rw [hg]; exact (below_size (by exact s_b HB.out)) : w.heap.size ≤ gb215)); have GE215 := s_a ((by rw [hg]; exact (below_size (by exact s_b HB.out)) : w.heap.size ≤ gb215)); have NB214_215 := s_a ((by rw [hg]; exact Nat.ne_of_lt (blk_lt (s_k BK214.out)) : gb214 ≠ gb215)); have NB215_214 := s_a ((by rw [hg]; exact Nat.ne_of_gt (blk_lt (s_k BK214.out)) : gb215 ≠ gb214)); replace BK214 := s_a (blk_below (s_k BK214.out) hb); replace HB := s_a (below_step (by exact s_b HB.out) hb); clear hb hbox hg))
   replace BK214 := s_a (blk_drew BK214.out)
   replace BK215 := s_a (blk_drew BK215.out)
   replace HB := s_a (below_drew1 HB.out)
   refine start_ (n := 22) (S := fun w' => w'.cell? ⟨gb214, 0, none⟩ = some (.string a1_0) ∧ w'.cell? ⟨gb214, 1, none⟩ = some (.string a1_1) ∧ w'.cell? ⟨gb214, 2, none⟩ = some (.string a1_2) ∧ w'.cell? ⟨gb214, 3, none⟩ = some (.int .i64 a1_3) ∧ w'.cell? ⟨gb214, 4, none⟩ = some (.int .i64 a1_4) ∧ w'.cell? ⟨gb214, 5, none⟩ = some (.int .i64 a1_5) ∧ w'.cell? ⟨gb214, 6, none⟩ = some (.int .i64 a1_6) ∧ w'.cell? ⟨gb214, 7, none⟩ = some (.bool a1_7) ∧ w'.cell? ⟨gb214, 8, none⟩ = some (.int .i64 a1_8) ∧ w'.cell? ⟨gb214, 9, none⟩ = some (.slice A1_9 l1_9.length c1_9) ∧ w'.cell? ⟨gb214, 10, none⟩ = some (.slice A1_10 l1_10.length c1_10) ∧ w'.cell? ⟨gb214, 11, none⟩ = some (.slice A1_11 l1_11.length c1_11) ∧ w'.cell? ⟨gb214, 12, none⟩ = some (.slice A1_12 l1_12.length c1_12) ∧ w'.cell? ⟨gb214, 13, none⟩ = some (.string a1_13) ∧ w'.cell? ⟨gb214, 14, none⟩ = some (.int .i64 a1_14) ∧ w'.cell? ⟨gb214, 15, none⟩ = some (.int .i64 a1_15) ∧ w'.cell? ⟨gb214, 16, none⟩ = some (.int .i64 a1_16) ∧ w'.cell? ⟨gb214, 17, none⟩ = some (.slice A1_17 l1_17.length c1_17) ∧ w'.cell? ⟨gb214, 18, none⟩ = some (.slice A1_18 l1_18.length c1_18) ∧ w'.cell? ⟨gb214, 19, none⟩ = some (.slice A1_19 l1_19.length c1_19) ∧ w'.cell? ⟨gb214, 20, none⟩ = some (.slice A1_20 l1_20.length c1_20) ∧ w'.cell? ⟨gb214, 21, none⟩ = some (.slice A1_21 l1_21.length c1_21) ∧ w'.cell? ⟨gb214, 22, none⟩ = some (.slice A1_22 l1_22.length c1_22) ∧ w'.cell? ⟨gb214, 23, none⟩ = some (.int .i64 a1_23) ∧ w'.cell? ⟨gb214, 24, none⟩ = some (.bool a1_24) ∧ w'.cell? ⟨gb214, 25, none⟩ = some (.int .i64 a1_25) ∧ w'.cell? ⟨gb214, 26, none⟩ = some (.int .i64 a1_26) ∧ w'.cell? ⟨gb214, 27, none⟩ = some (.int .i64 a1_27) ∧ w'.cell? ⟨gb214, 28, none⟩ = some (.slice A1_28 l1_28.length c1_28) ∧ w'.cell? ⟨gb214, 29, none⟩ = some (.int .i64 a1_29) ∧ w'.cell? ⟨gb214, 30, none⟩ = some (.string a1_30) ∧ w'.cell? ⟨gb214, 31, none⟩ = some (.string a1_31) ∧ w'.cell? ⟨gb215, 0, none⟩ = some (.string a2_0) ∧ w'.cell? ⟨gb215, 1, none⟩ = some (.string a2_1) ∧ w'.cell? ⟨gb215, 2, none⟩ = some (.string a2_2) ∧ w'.cell? ⟨gb215, 3, none⟩ = some (.int .i64 a2_3) ∧ w'.cell? ⟨gb215, 4, none⟩ = some (.int .i64 a2_4) ∧ w'.cell? ⟨gb215, 5, none⟩ = some (.int .i64 a2_5) ∧ w'.cell? ⟨gb215, 6, none⟩ = some (.int .i64 a2_6) ∧ w'.cell? ⟨gb215, 7, none⟩ = some (.bool a2_7) ∧ w'.cell? ⟨gb215, 8, none⟩ = some (.int .i64 a2_8) ∧ w'.cell? ⟨gb215, 9, none⟩ = some (.slice A2_9 l2_9.length c2_9) ∧ w'.cell? ⟨gb215, 10, none⟩ = some (.slice A2_10 l2_10.length c2_10) ∧ w'.cell? ⟨gb215, 11, none⟩ = some (.slice A2_11 l2_11.length c2_11) ∧ w'.cell? ⟨gb215, 12, none⟩ = some (.slice A2_12 l2_12.length c2_12) ∧ w'.cell? ⟨gb215, 13, none⟩ = some (.string a2_13) ∧ w'.cell? ⟨gb215, 14, none⟩ = some (.int .i64 a2_14) ∧ w'.cell? ⟨gb215, 15, none⟩ = some (.int .i64 a2_15) ∧ w'.cell? ⟨gb215, 16, none⟩ = some (.int .i64 a2_16) ∧ w'.cell? ⟨gb215, 17, none⟩ = some (.slice A2_17 l2_17.length c2_17) ∧ w'.cell? ⟨gb215, 18, none⟩ = some (.slice A2_18 l2_18.length c2_18) ∧ w'.cell? ⟨gb215, 19, none⟩ = some (.slice A2_19 l2_19.length c2_19) ∧ w'.cell? ⟨gb215, 20, none⟩ = some (.slice A2_20 l2_20.length c2_20) ∧ w'.cell? ⟨gb215, 21, none⟩ = some (.slice A2_21 l2_21.length c2_21) ∧ w'.cell? ⟨gb215, 22, none⟩ = some (.slice A2_22 l2_22.length c2_22) ∧ w'.cell? ⟨gb215, 23, none⟩ = some (.int .i64 a2_23) ∧ w'.cell? ⟨gb215, 24, none⟩ = some (.bool a2_24) ∧ w'.cell? ⟨gb215, 25, none⟩ = some (.int .i64 a2_25) ∧ w'.cell? ⟨gb215, 26, none⟩ = some (.int .i64 a2_26) ∧ w'.cell? ⟨gb215, 27, none⟩ = some (.int .i64 a2_27) ∧ w'.cell? ⟨gb215, 28, none⟩ = some (.slice A2_28 l2_28.length c2_28) ∧ w'.cell? ⟨gb215, 29, none⟩ = some (.int .i64 a2_29) ∧ w'.cell? ⟨gb215, 30, none⟩ = some (.string a2_30) ∧ w'.cell? ⟨gb215, 31, none⟩ = some (.string a2_31)) (ds := []) (bz 22 0) (by kernel_rfl) rfl rfl ⟨s_x BK214.out 0, s_x BK214.out 1, s_x BK214.out 2, s_x BK214.out 3, s_x BK214.out 4, s_x BK214.out 5, s_x BK214.out 6, s_x BK214.out 7, s_x BK214.out 8, s_x BK214.out 9, s_x BK214.out 10, s_x BK214.out 11, s_x BK214.out 12, s_x BK214.out 13, s_x BK214.out 14, s_x BK214.out 15, s_x BK214.out 16, s_x BK214.out 17, s_x BK214.out 18, s_x BK214.out 19, s_x BK214.out 20, s_x BK214.out 21, s_x BK214.out 22, s_x BK214.out 23, s_x BK214.out 24, s_x BK214.out 25, s_x BK214.out 26, s_x BK214.out 27, s_x BK214.out 28, s_x BK214.out 29, s_x BK214.out 30, s_x BK214.out 31, s_x BK215.out 0, s_x BK215.out 1, s_x BK215.out 2, s_x BK215.out 3, s_x BK215.out 4, s_x BK215.out 5, s_x BK215.out 6, s_x BK215.out 7, s_x BK215.out 8, s_x BK215.out 9, s_x BK215.out 10, s_x BK215.out 11, s_x BK215.out 12, s_x BK215.out 13, s_x BK215.out 14, s_x BK215.out 15, s_x BK215.out 16, s_x BK215.out 17, s_x BK215.out 18, s_x BK215.out 19, s_x BK215.out 20, s_x BK215.out 21, s_x BK215.out 22, s_x BK215.out 23, s_x BK215.out 24, s_x BK215.out 25, s_x BK215.out 26, s_x BK215.out 27, s_x BK215.out 28, s_x BK215.out 29, s_x BK215.out 30, s_x BK215.out 31⟩ (fun hHeld => ?_); refine with_tabW netpolicy_Allowed.tab1 netpolicy_Allowed.bits1 (fun HT_ HW_ => ?_)
   generalize w24.drew = w25 at BK214 BK215 HB hHeld ⊢
   refine q_p 0 (some 9) (bz 22 1) (any_of HT_.out (by kernel_rfl)) (v := ?_) ?_ (a' := ?_) ?_ ?_; rotate_left 2
   ·intro w'; go_simp; with_reducible rfl
   ·simp only [Act.put, List.setIfInBounds_toArray, List.set_cons_zero, List.set_cons_succ, i64_w, i32_w]; rfl
   refine q_p 3 (some 12) (bz 22 9) (any_of HT_.out (by kernel_rfl)) (v := ?_) ?_ (a' := ?_) ?_ ?_; rotate_left 2
   ·intro w'; go_simp; with_reducible rfl
   ·simp only [Act.put, List.setIfInBounds_toArray, List.set_cons_zero, List.set_cons_succ, i64_w, i32_w]; rfl
   refine q_t 1 (some 10) (bz 22 11) (take_ofW HT_.out HW_.out (by kernel_rfl)) hHeld (v := ?_) ?_ (a' := ?_) ?_ ?_; rotate_left 2
   ·rintro w' ⟨s0, s1, s2, s3, s4, s5, s6, s7, s8, s9, s10, s11, s12, s13, s14, s15, s16, s17, s18, s19, s20, s21, s22, s23, s24, s25, s26, s27, s28, s29, s30, s31, s32, s33, s34, s35, s36, s37, s38, s39, s40, s41, s42, s43, s44, s45, s46, s47, s48, s49, s50, s51, s52, s53, s54, s55, s56, s57, s58, s59, s60, s61, s62, s63⟩; (refine (s_ld rfl 28 (.tmp 9) ?_ _ ?_ _ _ (cells_at s0 (s_cc s1 (s_cc s2 (s_cc s3 (s_cc s4 (s_cc s5 (s_cc s6 (s_cc s7 (s_cc s8 (s_cc s9 (s_cc s10 (s_cc s11 (s_cc s12 s_cn))))))))))))) Try.underlying28 (by rfl) sz28).trans ?_ <;> first | (with_reducible rfl) | rfl)
   ·simp only [Act.put, List.setIfInBounds_toArray, List.set_cons_zero, List.set_cons_succ, i64_w, i32_w]; rfl
   refine q_t 4 (some 13) (bz 22 27) (take_ofW HT_.out HW_.out (by kernel_rfl)) hHeld (v := ?_) ?_ (a' := ?_) ?_ ?_; rotate_left 2
   ·rintro w' ⟨s0, s1, s2, s3, s4, s5, s6, s7, s8, s9, s10, s11, s12, s13, s14, s15, s16, s17, s18, s19, s20, s21, s22, s23, s24, s25, s26, s27, s28, s29, s30, s31, s32, s33, s34, s35, s36, s37, s38, s39, s40, s41, s42, s43, s44, s45, s46, s47, s48, s49, s50, s51, s52, s53, s54, s55, s56, s57, s58, s59, s60, s61, s62, s63⟩; (refine (s_ld rfl 28 (.tmp 12) ?_ _ ?_ _ _ (cells_at s32 (s_cc s33 (s_cc s34 (s_cc s35 (s_cc s36 (s_cc s37 (s_cc s38 (s_cc s39 (s_cc s40 (s_cc s41 (s_cc s42 (s_cc s43 (s_cc s44 s_cn))))))))))))) Try.underlying28 (by rfl) sz28).trans ?_ <;> first | (with_reducible rfl) | rfl)
   ·simp only [Act.put, List.setIfInBounds_toArray, List.set_cons_zero, List.set_cons_succ, i64_w, i32_w]; rfl
   refine one_ (i := 2) (N := some 11) (bz 22 31) rfl rfl (one_of HT_.out (by kernel_rfl)) (by decide) (fun K hK => ?_)
   refine goes_ Try.func22 (by kernel_rfl) rfl #[.agg #[.string a1_0, .string a1_1, .string a1_2, .int .i64 a1_3, .int .i64 a1_4, .int .i64 a1_5, .int .i64 a1_6, .bool a1_7, .int .i64 a1_8, .slice A1_9 l1_9.length c1_9, .slice A1_10 l1_10.length c1_10, .slice A1_11 l1_11.length c1_11, .slice A1_12 l1_12.length c1_12]] (by rfl) rfl rfl (by (try simp only [List.map_toArray, List.map_cons, List.map_nil]); first | done | rfl | (simp only [List.length_drop, List.length_take]; rfl)) ?_
   with_reducible refine (meta_KeyOf.calls _ _ _ _ _ _ _ _ _ _ _ _ _ _ _ _ _ _ _ _ _ _ _ ?side1 ?side2 ?side3 ?side4 ?side5 ?side6 ?side7 ?side8 A5.out).mono ?_
   (case side1 => exact s_D HR1_9.out HB.out)
   (case side2 => exact HC1_9.out)
   (case side3 => exact s_D HR1_10.out HB.out)
   (case side4 => exact HC1_10.out)
   (case side5 => exact s_D HR1_11.out HB.out)
   (case side6 => exact HC1_11.out)
   (case side7 => exact s_D HR1_12.out HB.out)
   (case side8 => exact HC1_12.out)
   rintro e w26 ⟨rfl, hb⟩
   refine ⟨_, rfl, ?_⟩
   replace BK214 := s_a (blk_below (s_k BK214.out) hb)
   replace BK215 := s_a (blk_below (s_k BK215.out) hb)
   replace HB := s_a (below_step (by exact s_b HB.out) hb)
   (try clear hb)
   refine hK.out _ _ ⟨s_x BK214.out 0, s_x BK214.out 1, s_x BK214.out 2, s_x BK214.out 3, s_x BK214.out 4, s_x BK214.out 5, s_x BK214.out 6, s_x BK214.out 7, s_x BK214.out 8, s_x BK214.out 9, s_x BK214.out 10, s_x BK214.out 11, s_x BK214.out 12, s_x BK214.out 13, s_x BK214.out 14, s_x BK214.out 15, s_x BK214.out 16, s_x BK214.out 17, s_x BK214.out 18, s_x BK214.out 19, s_x BK214.out 20, s_x BK214.out 21, s_x BK214.out 22, s_x BK214.out 23, s_x BK214.out 24, s_x BK214.out 25, s_x BK214.out 26, s_x BK214.out 27, s_x BK214.out 28, s_x BK214.out 29, s_x BK214.out 30, s_x BK214.out 31, s_x BK215.out 0, s_x BK215.out 1, s_x BK215.out 2, s_x BK215.out 3, s_x BK215.out 4, s_x BK215.out 5, s_x BK215.out 6, s_x BK215.out 7, s_x BK215.out 8, s_x BK215.out 9, s_x BK215.out 10, s_x BK215.out 11, s_x BK215.out 12, s_x BK215.out 13, s_x BK215.out 14, s_x BK215.out 15, s_x BK215.out 16, s_x BK215.out 17, s_x BK215.out 18, s_x BK215.out 19, s_x BK215.out 20, s_x BK215.out 21, s_x BK215.out 22, s_x BK215.out 23, s_x BK215.out 24, s_x BK215.out 25, s_x BK215.out 26, s_x BK215.out 27, s_x BK215.out 28, s_x BK215.out 29, s_x BK215.out 30, s_x BK215.out 31⟩ (fun hHeld => ?_)
   clear hK K
   refine norm_ (a' := ?_) ?_ ?_
   rotate_left
   ·show Act.put _ (some 11) _ = _
    simp only [Act.put, List.setIfInBounds_toArray, List.set_cons_zero, List.set_cons_succ, i64_w, i32_w]
    rfl
   refine one_ (i := 5) (N := some 14) (bz 22 63) rfl rfl (one_of HT_.out (by kernel_rfl)) (by decide) (fun K hK => ?_)
   refine goes_ Try.func22 (by kernel_rfl) rfl #[.agg #[.string a2_0, .string a2_1, .string a2_2, .int .i64 a2_3, .int .i64 a2_4, .int .i64 a2_5, .int .i64 a2_6, .bool a2_7, .int .i64 a2_8, .slice A2_9 l2_9.length c2_9, .slice A2_10 l2_10.length c2_10, .slice A2_11 l2_11.length c2_11, .slice A2_12 l2_12.length c2_12]] (by rfl) rfl rfl (by (try simp only [List.map_toArray, List.map_cons, List.map_nil]); first | done | rfl | (simp only [List.length_drop, List.length_take]; rfl)) ?_
   with_reducible refine (meta_KeyOf.calls _ _ _ _ _ _ _ _ _ _ _ _ _ _ _ _ _ _ _ _ _ _ _ ?side1 ?side2 ?side3 ?side4 ?side5 ?side6 ?side7 ?side8 A6.out).mono ?_
   (case side1 => exact s_D HR2_9.out HB.out)
   (case side2 => exact HC2_9.out)
   (case side3 => exact s_D HR2_10.out HB.out)
   (case side4 => exact HC2_10.out)
   (case side5 => exact s_D HR2_11.out HB.out)
   (case side6 => exact HC2_11.out)
   (case side7 => exact s_D HR2_12.out HB.out)
   (case side8 => exact HC2_12.out)
   rintro e w27 ⟨rfl, hb⟩
   refine ⟨_, rfl, ?_⟩
   replace BK214 := s_a (blk_below (s_k BK214.out) hb)
   replace BK215 := s_a (blk_below (s_k BK215.out) hb)
   replace HB := s_a (below_step (by exact s_b HB.out) hb)
   (try clear hb)
   refine hK.out _ _ ⟨s_x BK214.out 0, s_x BK214.out 1, s_x BK214.out 2, s_x BK214.out 3, s_x BK214.out 4, s_x BK214.out 5, s_x BK214.out 6, s_x BK214.out 7, s_x BK214.out 8, s_x BK214.out 9, s_x BK214.out 10, s_x BK214.out 11, s_x BK214.out 12, s_x BK214.out 13, s_x BK214.out 14, s_x BK214.out 15, s_x BK214.out 16, s_x BK214.out 17, s_x BK214.out 18, s_x BK214.out 19, s_x BK214.out 20, s_x BK214.out 21, s_x BK214.out 22, s_x BK214.out 23, s_x BK214.out 24, s_x BK214.out 25, s_x BK214.out 26, s_x BK214.out 27, s_x BK214.out 28, s_x BK214.out 29, s_x BK214.out 30, s_x BK214.out 31, s_x BK215.out 0, s_x BK215.out 1, s_x BK215.out 2, s_x BK215.out 3, s_x BK215.out 4, s_x BK215.out 5, s_x BK215.out 6, s_x BK215.out 7, s_x BK215.out 8, s_x BK215.out 9, s_x BK215.out 10, s_x BK215.out 11, s_x BK215.out 12, s_x BK215.out 13, s_x BK215.out 14, s_x BK215.out 15, s_x BK215.out 16, s_x BK215.out 17, s_x BK215.out 18, s_x BK215.out 19, s_x BK215.out 20, s_x BK215.out 21, s_x BK215.out 22, s_x BK215.out 23, s_x BK215.out 24, s_x BK215.out 25, s_x BK215.out 26, s_x BK215.out 27, s_x BK215.out 28, s_x BK215.out 29, s_x BK215.out 30, s_x BK215.out 31⟩ (fun hHeld => ?_)
   clear hK K
   refine norm_ (a' := ?_) ?_ ?_
   rotate_left
   ·show Act.put _ (some 14) _ = _
    simp only [Act.put, List.setIfInBounds_toArray, List.set_cons_zero, List.set_cons_succ, i64_w, i32_w]
    rfl
   refine q_p 6 (some 15) (bz 22 127) (any_of HT_.out (by kernel_rfl)) (v := ?_) ?_ (a' := ?_) ?_ ?_; rotate_left 2
   ·intro w'; go_simp; with_reducible rfl
   ·simp only [Act.put, List.setIfInBounds_toArray, List.set_cons_zero, List.set_cons_succ, i64_w, i32_w]; rfl
   refine q_p 7 (some 16) (bz 22 255) (any_of HT_.out (by kernel_rfl)) (v := ?_) ?_ (a' := ?_) ?_ ?_; rotate_left 2
   ·intro w'; go_simp; with_reducible rfl
   ·simp only [Act.put, List.setIfInBounds_toArray, List.set_cons_zero, List.set_cons_succ, i64_w, i32_w]; rfl
   refine q_p 8 (some 17) (bz 22 511) (any_of HT_.out (by kernel_rfl)) (v := ?_) ?_ (a' := ?_) ?_ ?_; rotate_left 2
   ·intro w'; go_simp; with_reducible rfl
   ·simp only [Act.put, List.setIfInBounds_toArray, List.set_cons_zero, List.set_cons_succ, i64_w, i32_w]; rfl
   refine q_p 11 (some 20) (bz 22 2559) (any_of HT_.out (by kernel_rfl)) (v := ?_) ?_ (a' := ?_) ?_ ?_; rotate_left 2
   ·intro w'; go_simp; with_reducible rfl
   ·simp only [Act.put, List.setIfInBounds_toArray, List.set_cons_zero, List.set_cons_succ, i64_w, i32_w]; rfl
   refine q_t 9 (some 18) (bz 22 3071) (take_ofW HT_.out HW_.out (by kernel_rfl)) hHeld (v := ?_) ?_ (a' := ?_) ?_ ?_; rotate_left 2
   ·rintro w' ⟨s0, s1, s2, s3, s4, s5, s6, s7, s8, s9, s10, s11, s12, s13, s14, s15, s16, s17, s18, s19, s20, s21, s22, s23, s24, s25, s26, s27, s28, s29, s30, s31, s32, s33, s34, s35, s36, s37, s38, s39, s40, s41, s42, s43, s44, s45, s46, s47, s48, s49, s50, s51, s52, s53, s54, s55, s56, s57, s58, s59, s60, s61, s62, s63⟩; (refine (s_ld rfl 41 (.tmp 5) ?_ _ ?_ _ _ (cells_at s0 (s_cc s1 (s_cc s2 (s_cc s3 (s_cc s4 (s_cc s5 (s_cc s6 (s_cc s7 (s_cc s8 (s_cc s9 (s_cc s10 (s_cc s11 (s_cc s12 (s_cc s13 (s_cc s14 (s_cc s15 (s_cc s16 (s_cc s17 (s_cc s18 (s_cc s19 (s_cc s20 (s_cc s21 (s_cc s22 (s_cc s23 (s_cc s24 (s_cc s25 (s_cc s26 (s_cc s27 (s_cc s28 (s_cc s29 (s_cc s30 (s_cc s31 s_cn)))))))))))))))))))))))))))))))) Try.underlying41 (by rfl) sz41).trans ?_ <;> first | (with_reducible rfl) | rfl)
   ·simp only [Act.put, List.setIfInBounds_toArray, List.set_cons_zero, List.set_cons_succ, i64_w, i32_w]; rfl
   refine q_t 10 (some 19) (bz 22 4095) (take_ofW HT_.out HW_.out (by kernel_rfl)) hHeld (v := ?_) ?_ (a' := ?_) ?_ ?_; rotate_left 2
   ·rintro w' ⟨s0, s1, s2, s3, s4, s5, s6, s7, s8, s9, s10, s11, s12, s13, s14, s15, s16, s17, s18, s19, s20, s21, s22, s23, s24, s25, s26, s27, s28, s29, s30, s31, s32, s33, s34, s35, s36, s37, s38, s39, s40, s41, s42, s43, s44, s45, s46, s47, s48, s49, s50, s51, s52, s53, s54, s55, s56, s57, s58, s59, s60, s61, s62, s63⟩; (refine (s_ld rfl 41 (.tmp 6) ?_ _ ?_ _ _ (cells_at s32 (s_cc s33 (s_cc s34 (s_cc s35 (s_cc s36 (s_cc s37 (s_cc s38 (s_cc s39 (s_cc s40 (s_cc s41 (s_cc s42 (s_cc s43 (s_cc s44 (s_cc s45 (s_cc s46 (s_cc s47 (s_cc s48 (s_cc s49 (s_cc s50 (s_cc s51 (s_cc s52 (s_cc s53 (s_cc s54 (s_cc s55 (s_cc s56 (s_cc s57 (s_cc s58 (s_cc s59 (s_cc s60 (s_cc s61 (s_cc s62 (s_cc s63 s_cn)))))))))))))))))))))))))))))))) Try.underlying41 (by rfl) sz41).trans ?_ <;> first | (with_reducible rfl) | rfl)
   ·simp only [Act.put, List.setIfInBounds_toArray, List.set_cons_zero, List.set_cons_succ, i64_w, i32_w]; rfl
   refine one_ (i := 12) (N := some 21) (bz 22 8191) rfl rfl (one_of HT_.out (by kernel_rfl)) (by decide) (fun K hK => ?_)
   refine goes_ Try.func23 (by kernel_rfl) rfl #[.slice A0 l0.length c0, .agg #[.string a1_0, .string a1_1, .string a1_2, .int .i64 a1_3, .int .i64 a1_4, .int .i64 a1_5, .int .i64 a1_6, .bool a1_7, .int .i64 a1_8, .slice A1_9 l1_9.length c1_9, .slice A1_10 l1_10.length c1_10, .slice A1_11 l1_11.length c1_11, .slice A1_12 l1_12.length c1_12, .string a1_13, .int .i64 a1_14, .int .i64 a1_15, .int .i64 a1_16, .slice A1_17 l1_17.length c1_17, .slice A1_18 l1_18.length c1_18, .slice A1_19 l1_19.length c1_19, .slice A1_20 l1_20.length c1_20, .slice A1_21 l1_21.length c1_21, .slice A1_22 l1_22.length c1_22, .int .i64 a1_23, .bool a1_24, .int .i64 a1_25, .int .i64 a1_26, .int .i64 a1_27, .slice A1_28 l1_28.length c1_28, .int .i64 a1_29, .string a1_30, .string a1_31], .agg #[.string a2_0, .string a2_1, .string a2_2, .int .i64 a2_3, .int .i64 a2_4, .int .i64 a2_5, .int .i64 a2_6, .bool a2_7, .int .i64 a2_8, .slice A2_9 l2_9.length c2_9, .slice A2_10 l2_10.length c2_10, .slice A2_11 l2_11.length c2_11, .slice A2_12 l2_12.length c2_12, .string a2_13, .int .i64 a2_14, .int .i64 a2_15, .int .i64 a2_16, .slice A2_17 l2_17.length c2_17, .slice A2_18 l2_18.length c2_18, .slice A2_19 l2_19.length c2_19, .slice A2_20 l2_20.length c2_20, .slice A2_21 l2_21.length c2_21, .slice A2_22 l2_22.length c2_22, .int .i64 a2_23, .bool a2_24, .int .i64 a2_25, .int .i64 a2_26, .int .i64 a2_27, .slice A2_28 l2_28.length c2_28, .int .i64 a2_29, .string a2_30, .string a2_31], .int .i64 a3, .bool true] (by rfl) rfl rfl (by (try simp only [List.map_toArray, List.map_cons, List.map_nil]); first | done | rfl | (simp only [List.length_drop, List.length_take]; rfl)) ?_
   with_reducible refine (netpolicy_open.calls k _ _ _ _ _ _ _ _ _ _ _ _ _ _ _ _ _ _ _ _ _ _ _ _ _ _ _ _ _ _ _ _ _ _ _ _ _ _ _ _ _ _ _ _ _ _ _ _ _ _ _ _ _ _ _ _ _ _ _ _ _ _ _ _ _ _ _ _ _ _ _ _ _ _ _ _ _ _ _ _ _ _ _ _ _ _ _ _ _ _ _ _ _ _ _ _ _ _ _ _ _ _ _ _ _ _ _ _ _ _ _ _ _ _ _ ?side1 ?side2 ?side3 ?side4 ?side5 ?side6 ?side7 ?side8 ?side9 ?side10 ?side11 ?side12 ?side13 ?side14 ?side15 ?side16 ?side17 ?side18 ?side19 ?side20 ?side21 ?side22 ?side23 ?side24 ?side25 ?side26 ?side27 ?side28 ?side29 ?side30 ?side31 ?side32 ?side33 ?side34 ?side35 ?side36 ?side37 ?side38 ?side39 ?side40 ?side41 ?side42 ?side43 ?side44 ?side45 ?side46 A13.out).mono ?_
   (case side1 => exact s_D HR0.out HB.out)
   (case side2 => exact HC0.out)
   (case side3 => exact s_D HR1_9.out HB.out)
   (case side4 => exact HC1_9.out)
   (case side5 => exact s_D HR1_10.out HB.out)
   (case side6 => exact HC1_10.out)
   (case side7 => exact s_D HR1_11.out HB.out)
   (case side8 => exact HC1_11.out)
   (case side9 => exact s_D HR1_12.out HB.out)
   (case side10 => exact HC1_12.out)
   (case side11 => exact s_D HR1_17.out HB.out)
   (case side12 => exact HC1_17.out)
   (case side13 => exact s_D HR1_18.out HB.out)
   (case side14 => exact HC1_18.out)
   (case side15 => exact s_D HR1_19.out HB.out)
   (case side16 => exact HC1_19.out)
   (case side17 => exact s_D HR1_20.out HB.out)
   (case side18 => exact HC1_20.out)
   (case side19 => exact s_D HR1_21.out HB.out)
   (case side20 => exact HC1_21.out)
   (case side21 => exact s_D HR1_22.out HB.out)
   (case side22 => exact HC1_22.out)
   (case side23 => exact s_D HR1_28.out HB.out)
   (case side24 => exact HC1_28.out)
   (case side25 => exact s_D HR2_9.out HB.out)
   (case side26 => exact HC2_9.out)
   (case side27 => exact s_D HR2_10.out HB.out)
   (case side28 => exact HC2_10.out)
   (case side29 => exact s_D HR2_11.out HB.out)
   (case side30 => exact HC2_11.out)
   (case side31 => exact s_D HR2_12.out HB.out)
   (case side32 => exact HC2_12.out)
   (case side33 => exact s_D HR2_17.out HB.out)
   (case side34 => exact HC2_17.out)
   (case side35 => exact s_D HR2_18.out HB.out)
   (case side36 => exact HC2_18.out)
   (case side37 => exact s_D HR2_19.out HB.out)
   (case side38 => exact HC2_19.out)
   (case side39 => exact s_D HR2_20.out HB.out)
   (case side40 => exact HC2_20.out)
   (case side41 => exact s_D HR2_21.out HB.out)
   (case side42 => exact HC2_21.out)
   (case side43 => exact s_D HR2_22.out HB.out)
   (case side44 => exact HC2_22.out)
   (case side45 => exact s_D HR2_28.out HB.out)
   (case side46 => exact HC2_28.out)
   rintro e w28 ⟨rfl, hb⟩
   refine ⟨_, rfl, ?_⟩
   replace BK214 := s_a (blk_below (s_k BK214.out) hb)
   replace BK215 := s_a (blk_below (s_k BK215.out) hb)
   replace HB := s_a (below_step (by exact s_b HB.out) hb)
   (try clear hb)
   refine hK.out _ _ ⟨s_x BK214.out 0, s_x BK214.out 1, s_x BK214.out 2, s_x BK214.out 3, s_x BK214.out 4, s_x BK214.out 5, s_x BK214.out 6, s_x BK214.out 7, s_x BK214.out 8, s_x BK214.out 9, s_x BK214.out 10, s_x BK214.out 11, s_x BK214.out 12, s_x BK214.out 13, s_x BK214.out 14, s_x BK214.out 15, s_x BK214.out 16, s_x BK214.out 17, s_x BK214.out 18, s_x BK214.out 19, s_x BK214.out 20, s_x BK214.out 21, s_x BK214.out 22, s_x BK214.out 23, s_x BK214.out 24, s_x BK214.out 25, s_x BK214.out 26, s_x BK214.out 27, s_x BK214.out 28, s_x BK214.out 29, s_x BK214.out 30, s_x BK214.out 31, s_x BK215.out 0, s_x BK215.out 1, s_x BK215.out 2, s_x BK215.out 3, s_x BK215.out 4, s_x BK215.out 5, s_x BK215.out 6, s_x BK215.out 7, s_x BK215.out 8, s_x BK215.out 9, s_x BK215.out 10, s_x BK215.out 11, s_x BK215.out 12, s_x BK215.out 13, s_x BK215.out 14, s_x BK215.out 15, s_x BK215.out 16, s_x BK215.out 17, s_x BK215.out 18, s_x BK215.out 19, s_x BK215.out 20, s_x BK215.out 21, s_x BK215.out 22, s_x BK215.out 23, s_x BK215.out 24, s_x BK215.out 25, s_x BK215.out 26, s_x BK215.out 27, s_x BK215.out 28, s_x BK215.out 29, s_x BK215.out 30, s_x BK215.out 31⟩ (fun hHeld => ?_)
   clear hK K
   refine norm_ (a' := ?_) ?_ ?_
   rotate_left
   ·show Act.put _ (some 21) _ = _
    simp only [Act.put, List.setIfInBounds_toArray, List.set_cons_zero, List.set_cons_succ, i64_w, i32_w]
    rfl
   refine q_p 13 (some 22) (bz 22 16383) (any_of HT_.out (by kernel_rfl)) (v := ?_) ?_ (a' := ?_) ?_ ?_; rotate_left 2
   ·intro w'; go_simp; with_reducible rfl
   ·simp only [Act.put, List.setIfInBounds_toArray, List.set_cons_zero, List.set_cons_succ, i64_w, i32_w]; rfl
   refine q_o 14 (some 23) (bz 22 32767) (any_of HT_.out (by kernel_rfl)) (a' := ?_) ?_ ?_; rotate_left
   ·simp only [Act.put, List.setIfInBounds_toArray, List.set_cons_zero, List.set_cons_succ, i64_w, i32_w]; rfl
   refine q_o 15 (some 24) (bz 22 65535) (any_of HT_.out (by kernel_rfl)) (a' := ?_) ?_ ?_; rotate_left
   ·simp only [Act.put, List.setIfInBounds_toArray, List.set_cons_zero, List.set_cons_succ, i64_w, i32_w]; rfl
   refine q_o 16 (some 25) (bz 22 131071) (any_of HT_.out (by kernel_rfl)) (a' := ?_) ?_ ?_; rotate_left
   ·simp only [Act.put, List.setIfInBounds_toArray, List.set_cons_zero, List.set_cons_succ, i64_w, i32_w]; rfl
   refine q_o 17 (some 26) (bz 22 262143) (any_of HT_.out (by kernel_rfl)) (a' := ?_) ?_ ?_; rotate_left
   ·simp only [Act.put, List.setIfInBounds_toArray, List.set_cons_zero, List.set_cons_succ, i64_w, i32_w]; rfl
   refine q_o 18 (some 27) (bz 22 524287) (any_of HT_.out (by kernel_rfl)) (a' := ?_) ?_ ?_; rotate_left
   ·simp only [Act.put, List.setIfInBounds_toArray, List.set_cons_zero, List.set_cons_succ, i64_w, i32_w]; rfl
   refine q_p 19 (some 28) (bz 22 1048575) (any_of HT_.out (by kernel_rfl)) (v := ?_) ?_ (a' := ?_) ?_ ?_; rotate_left 2
   ·intro w'; go_simp; with_reducible rfl
   ·simp only [Act.put, List.setIfInBounds_toArray, List.set_cons_zero, List.set_cons_succ, i64_w, i32_w]; rfl
   refine q_p 20 (some 29) (bz 22 2097151) (any_of HT_.out (by kernel_rfl)) (v := ?_) ?_ (a' := ?_) ?_ ?_; rotate_left 2
   ·intro w'; go_simp; with_reducible rfl
   ·simp only [Act.put, List.setIfInBounds_toArray, List.set_cons_zero, List.set_cons_succ, i64_w, i32_w]; rfl
   refine q_p 21 (some 8) (bz 22 4194303) (any_of HT_.out (by kernel_rfl)) (v := ?_) ?_ (a' := ?_) ?_ ?_; rotate_left 2
   ·intro w'; go_simp; with_reducible rfl
   ·simp only [Act.put, List.setIfInBounds_toArray, List.set_cons_zero, List.set_cons_succ, i64_w, i32_w]; rfl
   refine done_ (done_of HT_.out (by kernel_rfl)) ?_
   try go_wp2
   go_ret
   exact ⟨by first | rfl | (simp [errW_none, errW_some] <;> rfl) | (simp [*, errW_none, errW_some] <;> rfl), by exact s_b HB.out⟩
end Go.Proofs.Ytkdikhonafbgdaa.Q
