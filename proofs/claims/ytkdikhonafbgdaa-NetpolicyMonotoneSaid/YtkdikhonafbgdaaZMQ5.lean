/- Part of a claim: see its row. Conditions: stated at each. -/
import Derived.Test.YtkdikhonafbgdaaZMQ0
import Derived.Test.YtkdikhonafbgdaaZMQ3
import Derived.Test.YtkdikhonafbgdaaZMQ4
namespace Go.Proofs.Ytkdikhonafbgdaa.Q
open Go.RowKit Go.Proofs.YtkdikhonafbgdaaW.PrintWords Go.Proofs.YtkdikhonafbgdaaW.PrintLast Go.Proofs.YtkdikhonafbgdaaW.PrintMore Go.Proofs.Ytkdikhonafbgdaa.Sh
attribute [local go_sem] max2_int min2_int max_two min_two max_three min_three max_four min_four
set_option linter.unusedVariables false
set_option linter.unusedSimpArgs false
def api_PolicyRule_31_c32.f (k : Nat) (l0 : List (S58)) (a200 : Bool) (a201_0 : ByteArray) (a201_1 : ByteArray) (a201_2 : ByteArray) (a201_3 : Int) (a201_4 : Int) (a201_5 : Int) (a201_6 : Int) (a201_7 : Bool) (a201_8 : Int) (l201_9 : List (S72)) (l201_10 : List (S110)) (l201_11 : List ByteArray) (l201_12 : List (S112)) (a201_13 : ByteArray) (a201_14 : Int) (a201_15 : Int) (a201_16 : Int) (l201_17 : List (S117)) (l201_18 : List (S74)) (l201_19 : List (S119)) (l201_20 : List (S121)) (l201_21 : List (S123)) (l201_22 : List (S125)) (a201_23 : Int) (a201_24 : Bool) (a201_25 : Int) (a201_26 : Int) (a201_27 : Int) (l201_28 : List (S127)) (a201_29 : Int) (a201_30 : ByteArray) (a201_31 : ByteArray) (a202 : Int) : Option (Bool) := (api_PolicyRule_39_c32.f k l0 a200 a201_0 a201_1 a201_2 a201_3 a201_4 a201_5 a201_6 a201_7 a201_8 l201_9 l201_10 l201_11 l201_12 a201_13 a201_14 a201_15 a201_16 l201_17 l201_18 l201_19 l201_20 l201_21 l201_22 a201_23 a201_24 a201_25 a201_26 a201_27 l201_28 a201_29 a201_30 a201_31 a202).bind fun t180 => (some (decide (t180 ≥ 0)))
theorem api_PolicyRule_31_c32.mono : ∀ a0 a1 a2 a3 a4 a5 a6 a7 a8 a9 a10 a11 a12 a13 a14 a15 a16 a17 a18 a19 a20 a21 a22 a23 a24 a25 a26 a27 a28 a29 a30 a31 a32 a33 a34 k, LeO (api_PolicyRule_31_c32.f k a0 a1 a2 a3 a4 a5 a6 a7 a8 a9 a10 a11 a12 a13 a14 a15 a16 a17 a18 a19 a20 a21 a22 a23 a24 a25 a26 a27 a28 a29 a30 a31 a32 a33 a34) (api_PolicyRule_31_c32.f (k + 1) a0 a1 a2 a3 a4 a5 a6 a7 a8 a9 a10 a11 a12 a13 a14 a15 a16 a17 a18 a19 a20 a21 a22 a23 a24 a25 a26 a27 a28 a29 a30 a31 a32 a33 a34) := by
 intro a0 a1 a2 a3 a4 a5 a6 a7 a8 a9 a10 a11 a12 a13 a14 a15 a16 a17 a18 a19 a20 a21 a22 a23 a24 a25 a26 a27 a28 a29 a30 a31 a32 a33 a34 k
 unfold api_PolicyRule_31_c32.f
 repeat' first
   | (with_reducible exact api_PolicyRule_39_c32.mono _ _ _ _ _ _ _ _ _ _ _ _ _ _ _ _ _ _ _ _ _ _ _ _ _ _ _ _ _ _ _ _ _ _ _ _)
   | (with_reducible exact LeO.refl _)
   | (with_reducible exact LeO.none _)
   | (with_reducible refine LeO.ite ?_ ?_)
   | (with_reducible refine LeO.bind ?_ (fun _ => ?_))
   | exact api_PolicyRule_39_c32.mono _ _ _ _ _ _ _ _ _ _ _ _ _ _ _ _ _ _ _ _ _ _ _ _ _ _ _ _ _ _ _ _ _ _ _ _
   | exact LeO.none _
   | refine LeO.ite ?_ ?_
   | refine LeO.bind ?_ (fun _ => ?_)
set_option maxHeartbeats 8000000 in
set_option maxRecDepth 100000 in
theorem api_PolicyRule_31_c32.calls (k : Nat) (A0 : Option Addr) (c0 : Nat) (l0 : List (S58)) (g200_ : Nat) (g201_ : Nat) (g202_ : Nat) (a200 : Bool) (a201_0 : ByteArray) (a201_1 : ByteArray) (a201_2 : ByteArray) (a201_3 : Int) (a201_4 : Int) (a201_5 : Int) (a201_6 : Int) (a201_7 : Bool) (a201_8 : Int) (A201_9 : Option Addr) (c201_9 : Nat) (l201_9 : List (S72)) (A201_10 : Option Addr) (c201_10 : Nat) (l201_10 : List (S110)) (A201_11 : Option Addr) (c201_11 : Nat) (l201_11 : List ByteArray) (A201_12 : Option Addr) (c201_12 : Nat) (l201_12 : List (S112)) (a201_13 : ByteArray) (a201_14 : Int) (a201_15 : Int) (a201_16 : Int) (A201_17 : Option Addr) (c201_17 : Nat) (l201_17 : List (S117)) (A201_18 : Option Addr) (c201_18 : Nat) (l201_18 : List (S74)) (A201_19 : Option Addr) (c201_19 : Nat) (l201_19 : List (S119)) (A201_20 : Option Addr) (c201_20 : Nat) (l201_20 : List (S121)) (A201_21 : Option Addr) (c201_21 : Nat) (l201_21 : List (S123)) (A201_22 : Option Addr) (c201_22 : Nat) (l201_22 : List (S125)) (a201_23 : Int) (a201_24 : Bool) (a201_25 : Int) (a201_26 : Int) (a201_27 : Int) (A201_28 : Option Addr) (c201_28 : Nat) (l201_28 : List (S127)) (a201_29 : Int) (a201_30 : ByteArray) (a201_31 : ByteArray) (a202 : Int) (r : Bool) (w : World) (hr0 : Kd.C k58 w A0 l0.length l0) (hc0 : l0.length ≤ c0) (hr201_9 : Kd.C k72 w A201_9 l201_9.length l201_9) (hc201_9 : l201_9.length ≤ c201_9) (hr201_10 : Kd.C k110 w A201_10 l201_10.length l201_10) (hc201_10 : l201_10.length ≤ c201_10) (hr201_11 : Kd.C Kd.string w A201_11 l201_11.length l201_11) (hc201_11 : l201_11.length ≤ c201_11) (hr201_12 : Kd.C k112 w A201_12 l201_12.length l201_12) (hc201_12 : l201_12.length ≤ c201_12) (hr201_17 : Kd.C k117 w A201_17 l201_17.length l201_17) (hc201_17 : l201_17.length ≤ c201_17) (hr201_18 : Kd.C k74 w A201_18 l201_18.length l201_18) (hc201_18 : l201_18.length ≤ c201_18) (hr201_19 : Kd.C k119 w A201_19 l201_19.length l201_19) (hc201_19 : l201_19.length ≤ c201_19) (hr201_20 : Kd.C k121 w A201_20 l201_20.length l201_20) (hc201_20 : l201_20.length ≤ c201_20) (hr201_21 : Kd.C k123 w A201_21 l201_21.length l201_21) (hc201_21 : l201_21.length ≤ c201_21) (hr201_22 : Kd.C k125 w A201_22 l201_22.length l201_22) (hc201_22 : l201_22.length ≤ c201_22) (hr201_28 : Kd.C k127 w A201_28 l201_28.length l201_28) (hc201_28 : l201_28.length ≤ c201_28) (hbx200 : w.heap[g200_]? = some (.cells #[.bool a200] 4 (0, 0))) (hbx201 : w.heap[g201_]? = some (.cells #[.string a201_0, .string a201_1, .string a201_2, .int .i64 a201_3, .int .i64 a201_4, .int .i64 a201_5, .int .i64 a201_6, .bool a201_7, .int .i64 a201_8, .slice A201_9 l201_9.length c201_9, .slice A201_10 l201_10.length c201_10, .slice A201_11 l201_11.length c201_11, .slice A201_12 l201_12.length c201_12, .string a201_13, .int .i64 a201_14, .int .i64 a201_15, .int .i64 a201_16, .slice A201_17 l201_17.length c201_17, .slice A201_18 l201_18.length c201_18, .slice A201_19 l201_19.length c201_19, .slice A201_20 l201_20.length c201_20, .slice A201_21 l201_21.length c201_21, .slice A201_22 l201_22.length c201_22, .int .i64 a201_23, .bool a201_24, .int .i64 a201_25, .int .i64 a201_26, .int .i64 a201_27, .slice A201_28 l201_28.length c201_28, .int .i64 a201_29, .string a201_30, .string a201_31] 41 (0, 0))) (hbx202 : w.heap[g202_]? = some (.cells #[.int .i64 a202] 3 (0, 0))) (hbn200_201 : g200_ ≠ g201_) (hbn200_202 : g200_ ≠ g202_) (hbn201_202 : g201_ ≠ g202_) (h : api_PolicyRule_31_c32.f k l0 a200 a201_0 a201_1 a201_2 a201_3 a201_4 a201_5 a201_6 a201_7 a201_8 l201_9 l201_10 l201_11 l201_12 a201_13 a201_14 a201_15 a201_16 l201_17 l201_18 l201_19 l201_20 l201_21 l201_22 a201_23 a201_24 a201_25 a201_26 a201_27 l201_28 a201_29 a201_30 a201_31 a202 = some r) :
  Calls Try.prog 31 #[.slice A0 l0.length c0, .func (.func 32) #[] #[.pointer (some ⟨g200_, 0, none⟩), .pointer (some ⟨g201_, 0, none⟩), .pointer (some ⟨g202_, 0, none⟩)]] w fun e w' => e = .returned (.bool r) ∧ Below w.heap.size w w' := by
 have HR0 := s_a hr0
 have HC0 := s_a hc0
 clear hr0 hc0
 have HR201_9 := s_a hr201_9
 have HC201_9 := s_a hc201_9
 clear hr201_9 hc201_9
 have HR201_10 := s_a hr201_10
 have HC201_10 := s_a hc201_10
 clear hr201_10 hc201_10
 have HR201_11 := s_a hr201_11
 have HC201_11 := s_a hc201_11
 clear hr201_11 hc201_11
 have HR201_12 := s_a hr201_12
 have HC201_12 := s_a hc201_12
 clear hr201_12 hc201_12
 have HR201_17 := s_a hr201_17
 have HC201_17 := s_a hc201_17
 clear hr201_17 hc201_17
 have HR201_18 := s_a hr201_18
 have HC201_18 := s_a hc201_18
 clear hr201_18 hc201_18
 have HR201_19 := s_a hr201_19
 have HC201_19 := s_a hc201_19
 clear hr201_19 hc201_19
 have HR201_20 := s_a hr201_20
 have HC201_20 := s_a hc201_20
 clear hr201_20 hc201_20
 have HR201_21 := s_a hr201_21
 have HC201_21 := s_a hc201_21
 clear hr201_21 hc201_21
 have HR201_22 := s_a hr201_22
 have HC201_22 := s_a hc201_22
 clear hr201_22 hc201_22
 have HR201_28 := s_a hr201_28
 have HC201_28 := s_a hc201_28
 clear hr201_28 hc201_28
 have BK177 := s_a hbx200
 clear hbx200
 have BK178 := s_a hbx201
 clear hbx201
 have BK179 := s_a hbx202
 clear hbx202
 have NB177_178 := s_a hbn200_201
 have NB178_177 := s_a (Ne.symm hbn200_201)
 clear hbn200_201
 have NB177_179 := s_a hbn200_202
 have NB179_177 := s_a (Ne.symm hbn200_202)
 clear hbn200_202
 have NB178_179 := s_a hbn201_202
 have NB179_178 := s_a (Ne.symm hbn201_202)
 clear hbn201_202
 have HB := s_a (Below.refl w.heap.size w)
 have H := h; unfold api_PolicyRule_31_c32.f at H
 clear h
 replace H := Option.bind_eq_some_iff.mp H
 obtain ⟨t180, A30, H⟩ := H
 replace H : (some (decide (t180 ≥ 0))) = some r := H
 have A3 := s_a A30
 clear A30
 obtain rfl := Option.some.inj H
 go_enter Try.func31, Try.ntmps31
 go_wp2_with (first | (go_at_call 39; (with_reducible refine (api_PolicyRule_39_c32.calls k _ _ _ g200_ g201_ g202_ a200 a201_0 a201_1 a201_2 a201_3 a201_4 a201_5 a201_6 a201_7 a201_8 A201_9 c201_9 l201_9 A201_10 c201_10 l201_10 A201_11 c201_11 l201_11 A201_12 c201_12 l201_12 a201_13 a201_14 a201_15 a201_16 A201_17 c201_17 l201_17 A201_18 c201_18 l201_18 A201_19 c201_19 l201_19 A201_20 c201_20 l201_20 A201_21 c201_21 l201_21 A201_22 c201_22 l201_22 a201_23 a201_24 a201_25 a201_26 a201_27 A201_28 c201_28 l201_28 a201_29 a201_30 a201_31 a202 _ _ ?side1 ?side2 ?side3 ?side4 ?side5 ?side6 ?side7 ?side8 ?side9 ?side10 ?side11 ?side12 ?side13 ?side14 ?side15 ?side16 ?side17 ?side18 ?side19 ?side20 ?side21 ?side22 ?side23 ?side24 ?side25 ?side26 ?side27 ?side28 ?side29 ?side30 A3.out).mono ?_); (case side1 => exact s_C HR0.out); (case side2 => exact HC0.out); (case side3 => exact s_C HR201_9.out); (case side4 => exact HC201_9.out); (case side5 => exact s_C HR201_10.out); (case side6 => exact HC201_10.out); (case side7 => exact s_C HR201_11.out); (case side8 => exact HC201_11.out); (case side9 => exact s_C HR201_12.out); (case side10 => exact HC201_12.out); (case side11 => exact s_C HR201_17.out); (case side12 => exact HC201_17.out); (case side13 => exact s_C HR201_18.out); (case side14 => exact HC201_18.out); (case side15 => exact s_C HR201_19.out); (case side16 => exact HC201_19.out); (case side17 => exact s_C HR201_20.out); (case side18 => exact HC201_20.out); (case side19 => exact s_C HR201_21.out); (case side20 => exact HC201_21.out); (case side21 => exact s_C HR201_22.out); (case side22 => exact HC201_22.out); (case side23 => exact s_C HR201_28.out); (case side24 => exact HC201_28.out); (case side25 => exact (by exact s_k BK177.out)); (case side26 => exact (by exact s_k BK178.out)); (case side27 => exact (by exact s_k BK179.out)); (case side28 => exact NB177_178.out); (case side29 => exact NB177_179.out); (case side30 => exact NB178_179.out); rintro e w4 ⟨rfl, hb⟩; (try clear A3); replace BK177 := s_a (blk_below (s_k BK177.out) hb); replace BK178 := s_a (blk_below (s_k BK178.out) hb); replace BK179 := s_a (blk_below (s_k BK179.out) hb); replace HB := s_a (below_step (by exact s_b HB.out) hb); (try clear hb)))
 go_ret
 exact ⟨by first | rfl | (simp [errW_none, errW_some] <;> rfl) | (simp [*, errW_none, errW_some] <;> rfl), by exact s_b HB.out⟩
def netpolicy_open_1.f (k : Nat) (a0_0 : ByteArray) (a0_1 : ByteArray) (a0_2 : ByteArray) (a0_3 : Int) (a0_4 : Int) (a0_5 : Int) (a0_6 : Int) (a0_7 : Bool) (a0_8 : Int) (l0_9 : List (S72)) (l0_10 : List (S110)) (l0_11 : List ByteArray) (l0_12 : List (S112)) (l0_13 : List (S74)) (a0_14 : Bool) (a0_15 : Bool) (l0_16 : List (S58)) (a1_0 : ByteArray) (a1_1 : ByteArray) (a1_2 : ByteArray) (a1_3 : Int) (a1_4 : Int) (a1_5 : Int) (a1_6 : Int) (a1_7 : Bool) (a1_8 : Int) (l1_9 : List (S72)) (l1_10 : List (S110)) (l1_11 : List ByteArray) (l1_12 : List (S112)) (a1_13 : ByteArray) (a1_14 : Int) (a1_15 : Int) (a1_16 : Int) (l1_17 : List (S117)) (l1_18 : List (S74)) (l1_19 : List (S119)) (l1_20 : List (S121)) (l1_21 : List (S123)) (l1_22 : List (S125)) (a1_23 : Int) (a1_24 : Bool) (a1_25 : Int) (a1_26 : Int) (a1_27 : Int) (l1_28 : List (S127)) (a1_29 : Int) (a1_30 : ByteArray) (a1_31 : ByteArray) (a2 : Bool) (a3_0 : ByteArray) (a3_1 : ByteArray) (a3_2 : ByteArray) (a3_3 : Int) (a3_4 : Int) (a3_5 : Int) (a3_6 : Int) (a3_7 : Bool) (a3_8 : Int) (l3_9 : List (S72)) (l3_10 : List (S110)) (l3_11 : List ByteArray) (l3_12 : List (S112)) (a3_13 : ByteArray) (a3_14 : Int) (a3_15 : Int) (a3_16 : Int) (l3_17 : List (S117)) (l3_18 : List (S74)) (l3_19 : List (S119)) (l3_20 : List (S121)) (l3_21 : List (S123)) (l3_22 : List (S125)) (a3_23 : Int) (a3_24 : Bool) (a3_25 : Int) (a3_26 : Int) (a3_27 : Int) (l3_28 : List (S127)) (a3_29 : Int) (a3_30 : ByteArray) (a3_31 : ByteArray) (a4 : Int) : Option (Bool) := (netpolicy_isolates.f k a0_0 a0_1 a0_2 a0_3 a0_4 a0_5 a0_6 a0_7 a0_8 l0_9 l0_10 l0_11 l0_12 l0_13 a0_14 a0_15 l0_16 a1_0 a1_1 a1_2 a1_3 a1_4 a1_5 a1_6 a1_7 a1_8 l1_9 l1_10 l1_11 l1_12 a1_13 a1_14 a1_15 a1_16 l1_17 l1_18 l1_19 l1_20 l1_21 l1_22 a1_23 a1_24 a1_25 a1_26 a1_27 l1_28 a1_29 a1_30 a1_31 a2).bind fun t186 => (if t186 = true then ((api_PolicyRule_31_c32.f k l0_16 a2 a3_0 a3_1 a3_2 a3_3 a3_4 a3_5 a3_6 a3_7 a3_8 l3_9 l3_10 l3_11 l3_12 a3_13 a3_14 a3_15 a3_16 l3_17 l3_18 l3_19 l3_20 l3_21 l3_22 a3_23 a3_24 a3_25 a3_26 a3_27 l3_28 a3_29 a3_30 a3_31 a4).bind fun t187 => (some t187)) else (some false))
theorem netpolicy_open_1.mono : ∀ a0 a1 a2 a3 a4 a5 a6 a7 a8 a9 a10 a11 a12 a13 a14 a15 a16 a17 a18 a19 a20 a21 a22 a23 a24 a25 a26 a27 a28 a29 a30 a31 a32 a33 a34 a35 a36 a37 a38 a39 a40 a41 a42 a43 a44 a45 a46 a47 a48 a49 a50 a51 a52 a53 a54 a55 a56 a57 a58 a59 a60 a61 a62 a63 a64 a65 a66 a67 a68 a69 a70 a71 a72 a73 a74 a75 a76 a77 a78 a79 a80 a81 a82 k, LeO (netpolicy_open_1.f k a0 a1 a2 a3 a4 a5 a6 a7 a8 a9 a10 a11 a12 a13 a14 a15 a16 a17 a18 a19 a20 a21 a22 a23 a24 a25 a26 a27 a28 a29 a30 a31 a32 a33 a34 a35 a36 a37 a38 a39 a40 a41 a42 a43 a44 a45 a46 a47 a48 a49 a50 a51 a52 a53 a54 a55 a56 a57 a58 a59 a60 a61 a62 a63 a64 a65 a66 a67 a68 a69 a70 a71 a72 a73 a74 a75 a76 a77 a78 a79 a80 a81 a82) (netpolicy_open_1.f (k + 1) a0 a1 a2 a3 a4 a5 a6 a7 a8 a9 a10 a11 a12 a13 a14 a15 a16 a17 a18 a19 a20 a21 a22 a23 a24 a25 a26 a27 a28 a29 a30 a31 a32 a33 a34 a35 a36 a37 a38 a39 a40 a41 a42 a43 a44 a45 a46 a47 a48 a49 a50 a51 a52 a53 a54 a55 a56 a57 a58 a59 a60 a61 a62 a63 a64 a65 a66 a67 a68 a69 a70 a71 a72 a73 a74 a75 a76 a77 a78 a79 a80 a81 a82) := by
 intro a0 a1 a2 a3 a4 a5 a6 a7 a8 a9 a10 a11 a12 a13 a14 a15 a16 a17 a18 a19 a20 a21 a22 a23 a24 a25 a26 a27 a28 a29 a30 a31 a32 a33 a34 a35 a36 a37 a38 a39 a40 a41 a42 a43 a44 a45 a46 a47 a48 a49 a50 a51 a52 a53 a54 a55 a56 a57 a58 a59 a60 a61 a62 a63 a64 a65 a66 a67 a68 a69 a70 a71 a72 a73 a74 a75 a76 a77 a78 a79 a80 a81 a82 k
 unfold netpolicy_open_1.f
 repeat' first
   | (with_reducible exact api_PolicyRule_31_c32.mono _ _ _ _ _ _ _ _ _ _ _ _ _ _ _ _ _ _ _ _ _ _ _ _ _ _ _ _ _ _ _ _ _ _ _ _)
   | (with_reducible exact netpolicy_isolates.mono _ _ _ _ _ _ _ _ _ _ _ _ _ _ _ _ _ _ _ _ _ _ _ _ _ _ _ _ _ _ _ _ _ _ _ _ _ _ _ _ _ _ _ _ _ _ _ _ _ _ _)
   | (with_reducible exact LeO.refl _)
   | (with_reducible exact LeO.none _)
   | (with_reducible refine LeO.ite ?_ ?_)
   | (with_reducible refine LeO.bind ?_ (fun _ => ?_))
   | exact api_PolicyRule_31_c32.mono _ _ _ _ _ _ _ _ _ _ _ _ _ _ _ _ _ _ _ _ _ _ _ _ _ _ _ _ _ _ _ _ _ _ _ _
   | exact netpolicy_isolates.mono _ _ _ _ _ _ _ _ _ _ _ _ _ _ _ _ _ _ _ _ _ _ _ _ _ _ _ _ _ _ _ _ _ _ _ _ _ _ _ _ _ _ _ _ _ _ _ _ _ _ _
   | exact LeO.none _
   | refine LeO.ite ?_ ?_
   | refine LeO.bind ?_ (fun _ => ?_)
set_option maxHeartbeats 8000000 in
set_option maxRecDepth 100000 in
theorem netpolicy_open_1.calls (k : Nat) (a0_0 : ByteArray) (a0_1 : ByteArray) (a0_2 : ByteArray) (a0_3 : Int) (a0_4 : Int) (a0_5 : Int) (a0_6 : Int) (a0_7 : Bool) (a0_8 : Int) (A0_9 : Option Addr) (c0_9 : Nat) (l0_9 : List (S72)) (A0_10 : Option Addr) (c0_10 : Nat) (l0_10 : List (S110)) (A0_11 : Option Addr) (c0_11 : Nat) (l0_11 : List ByteArray) (A0_12 : Option Addr) (c0_12 : Nat) (l0_12 : List (S112)) (A0_13 : Option Addr) (c0_13 : Nat) (l0_13 : List (S74)) (a0_14 : Bool) (a0_15 : Bool) (A0_16 : Option Addr) (c0_16 : Nat) (l0_16 : List (S58)) (g1_ : Nat) (a1_0 : ByteArray) (a1_1 : ByteArray) (a1_2 : ByteArray) (a1_3 : Int) (a1_4 : Int) (a1_5 : Int) (a1_6 : Int) (a1_7 : Bool) (a1_8 : Int) (A1_9 : Option Addr) (c1_9 : Nat) (l1_9 : List (S72)) (A1_10 : Option Addr) (c1_10 : Nat) (l1_10 : List (S110)) (A1_11 : Option Addr) (c1_11 : Nat) (l1_11 : List ByteArray) (A1_12 : Option Addr) (c1_12 : Nat) (l1_12 : List (S112)) (a1_13 : ByteArray) (a1_14 : Int) (a1_15 : Int) (a1_16 : Int) (A1_17 : Option Addr) (c1_17 : Nat) (l1_17 : List (S117)) (A1_18 : Option Addr) (c1_18 : Nat) (l1_18 : List (S74)) (A1_19 : Option Addr) (c1_19 : Nat) (l1_19 : List (S119)) (A1_20 : Option Addr) (c1_20 : Nat) (l1_20 : List (S121)) (A1_21 : Option Addr) (c1_21 : Nat) (l1_21 : List (S123)) (A1_22 : Option Addr) (c1_22 : Nat) (l1_22 : List (S125)) (a1_23 : Int) (a1_24 : Bool) (a1_25 : Int) (a1_26 : Int) (a1_27 : Int) (A1_28 : Option Addr) (c1_28 : Nat) (l1_28 : List (S127)) (a1_29 : Int) (a1_30 : ByteArray) (a1_31 : ByteArray) (g2_ : Nat) (a2 : Bool) (g3_ : Nat) (a3_0 : ByteArray) (a3_1 : ByteArray) (a3_2 : ByteArray) (a3_3 : Int) (a3_4 : Int) (a3_5 : Int) (a3_6 : Int) (a3_7 : Bool) (a3_8 : Int) (A3_9 : Option Addr) (c3_9 : Nat) (l3_9 : List (S72)) (A3_10 : Option Addr) (c3_10 : Nat) (l3_10 : List (S110)) (A3_11 : Option Addr) (c3_11 : Nat) (l3_11 : List ByteArray) (A3_12 : Option Addr) (c3_12 : Nat) (l3_12 : List (S112)) (a3_13 : ByteArray) (a3_14 : Int) (a3_15 : Int) (a3_16 : Int) (A3_17 : Option Addr) (c3_17 : Nat) (l3_17 : List (S117)) (A3_18 : Option Addr) (c3_18 : Nat) (l3_18 : List (S74)) (A3_19 : Option Addr) (c3_19 : Nat) (l3_19 : List (S119)) (A3_20 : Option Addr) (c3_20 : Nat) (l3_20 : List (S121)) (A3_21 : Option Addr) (c3_21 : Nat) (l3_21 : List (S123)) (A3_22 : Option Addr) (c3_22 : Nat) (l3_22 : List (S125)) (a3_23 : Int) (a3_24 : Bool) (a3_25 : Int) (a3_26 : Int) (a3_27 : Int) (A3_28 : Option Addr) (c3_28 : Nat) (l3_28 : List (S127)) (a3_29 : Int) (a3_30 : ByteArray) (a3_31 : ByteArray) (g4_ : Nat) (a4 : Int) (r : Bool) (w : World) (hr0_9 : Kd.C k72 w A0_9 l0_9.length l0_9) (hc0_9 : l0_9.length ≤ c0_9) (hr0_10 : Kd.C k110 w A0_10 l0_10.length l0_10) (hc0_10 : l0_10.length ≤ c0_10) (hr0_11 : Kd.C Kd.string w A0_11 l0_11.length l0_11) (hc0_11 : l0_11.length ≤ c0_11) (hr0_12 : Kd.C k112 w A0_12 l0_12.length l0_12) (hc0_12 : l0_12.length ≤ c0_12) (hr0_13 : Kd.C k74 w A0_13 l0_13.length l0_13) (hc0_13 : l0_13.length ≤ c0_13) (hr0_16 : Kd.C k58 w A0_16 l0_16.length l0_16) (hc0_16 : l0_16.length ≤ c0_16) (hr1_9 : Kd.C k72 w A1_9 l1_9.length l1_9) (hc1_9 : l1_9.length ≤ c1_9) (hr1_10 : Kd.C k110 w A1_10 l1_10.length l1_10) (hc1_10 : l1_10.length ≤ c1_10) (hr1_11 : Kd.C Kd.string w A1_11 l1_11.length l1_11) (hc1_11 : l1_11.length ≤ c1_11) (hr1_12 : Kd.C k112 w A1_12 l1_12.length l1_12) (hc1_12 : l1_12.length ≤ c1_12) (hr1_17 : Kd.C k117 w A1_17 l1_17.length l1_17) (hc1_17 : l1_17.length ≤ c1_17) (hr1_18 : Kd.C k74 w A1_18 l1_18.length l1_18) (hc1_18 : l1_18.length ≤ c1_18) (hr1_19 : Kd.C k119 w A1_19 l1_19.length l1_19) (hc1_19 : l1_19.length ≤ c1_19) (hr1_20 : Kd.C k121 w A1_20 l1_20.length l1_20) (hc1_20 : l1_20.length ≤ c1_20) (hr1_21 : Kd.C k123 w A1_21 l1_21.length l1_21) (hc1_21 : l1_21.length ≤ c1_21) (hr1_22 : Kd.C k125 w A1_22 l1_22.length l1_22) (hc1_22 : l1_22.length ≤ c1_22) (hr1_28 : Kd.C k127 w A1_28 l1_28.length l1_28) (hc1_28 : l1_28.length ≤ c1_28) (hr3_9 : Kd.C k72 w A3_9 l3_9.length l3_9) (hc3_9 : l3_9.length ≤ c3_9) (hr3_10 : Kd.C k110 w A3_10 l3_10.length l3_10) (hc3_10 : l3_10.length ≤ c3_10) (hr3_11 : Kd.C Kd.string w A3_11 l3_11.length l3_11) (hc3_11 : l3_11.length ≤ c3_11) (hr3_12 : Kd.C k112 w A3_12 l3_12.length l3_12) (hc3_12 : l3_12.length ≤ c3_12) (hr3_17 : Kd.C k117 w A3_17 l3_17.length l3_17) (hc3_17 : l3_17.length ≤ c3_17) (hr3_18 : Kd.C k74 w A3_18 l3_18.length l3_18) (hc3_18 : l3_18.length ≤ c3_18) (hr3_19 : Kd.C k119 w A3_19 l3_19.length l3_19) (hc3_19 : l3_19.length ≤ c3_19) (hr3_20 : Kd.C k121 w A3_20 l3_20.length l3_20) (hc3_20 : l3_20.length ≤ c3_20) (hr3_21 : Kd.C k123 w A3_21 l3_21.length l3_21) (hc3_21 : l3_21.length ≤ c3_21) (hr3_22 : Kd.C k125 w A3_22 l3_22.length l3_22) (hc3_22 : l3_22.length ≤ c3_22) (hr3_28 : Kd.C k127 w A3_28 l3_28.length l3_28) (hc3_28 : l3_28.length ≤ c3_28) (hbx1 : w.heap[g1_]? = some (.cells #[.string a1_0, .string a1_1, .string a1_2, .int .i64 a1_3, .int .i64 a1_4, .int .i64 a1_5, .int .i64 a1_6, .bool a1_7, .int .i64 a1_8, .slice A1_9 l1_9.length c1_9, .slice A1_10 l1_10.length c1_10, .slice A1_11 l1_11.length c1_11, .slice A1_12 l1_12.length c1_12, .string a1_13, .int .i64 a1_14, .int .i64 a1_15, .int .i64 a1_16, .slice A1_17 l1_17.length c1_17, .slice A1_18 l1_18.length c1_18, .slice A1_19 l1_19.length c1_19, .slice A1_20 l1_20.length c1_20, .slice A1_21 l1_21.length c1_21, .slice A1_22 l1_22.length c1_22, .int .i64 a1_23, .bool a1_24, .int .i64 a1_25, .int .i64 a1_26, .int .i64 a1_27, .slice A1_28 l1_28.length c1_28, .int .i64 a1_29, .string a1_30, .string a1_31] 41 (0, 0))) (hbx2 : w.heap[g2_]? = some (.cells #[.bool a2] 4 (0, 0))) (hbx3 : w.heap[g3_]? = some (.cells #[.string a3_0, .string a3_1, .string a3_2, .int .i64 a3_3, .int .i64 a3_4, .int .i64 a3_5, .int .i64 a3_6, .bool a3_7, .int .i64 a3_8, .slice A3_9 l3_9.length c3_9, .slice A3_10 l3_10.length c3_10, .slice A3_11 l3_11.length c3_11, .slice A3_12 l3_12.length c3_12, .string a3_13, .int .i64 a3_14, .int .i64 a3_15, .int .i64 a3_16, .slice A3_17 l3_17.length c3_17, .slice A3_18 l3_18.length c3_18, .slice A3_19 l3_19.length c3_19, .slice A3_20 l3_20.length c3_20, .slice A3_21 l3_21.length c3_21, .slice A3_22 l3_22.length c3_22, .int .i64 a3_23, .bool a3_24, .int .i64 a3_25, .int .i64 a3_26, .int .i64 a3_27, .slice A3_28 l3_28.length c3_28, .int .i64 a3_29, .string a3_30, .string a3_31] 41 (0, 0))) (hbx4 : w.heap[g4_]? = some (.cells #[.int .i64 a4] 3 (0, 0))) (hbn1_2 : g1_ ≠ g2_) (hbn1_3 : g1_ ≠ g3_) (hbn1_4 : g1_ ≠ g4_) (hbn2_3 : g2_ ≠ g3_) (hbn2_4 : g2_ ≠ g4_) (hbn3_4 : g3_ ≠ g4_) (h : netpolicy_open_1.f k a0_0 a0_1 a0_2 a0_3 a0_4 a0_5 a0_6 a0_7 a0_8 l0_9 l0_10 l0_11 l0_12 l0_13 a0_14 a0_15 l0_16 a1_0 a1_1 a1_2 a1_3 a1_4 a1_5 a1_6 a1_7 a1_8 l1_9 l1_10 l1_11 l1_12 a1_13 a1_14 a1_15 a1_16 l1_17 l1_18 l1_19 l1_20 l1_21 l1_22 a1_23 a1_24 a1_25 a1_26 a1_27 l1_28 a1_29 a1_30 a1_31 a2 a3_0 a3_1 a3_2 a3_3 a3_4 a3_5 a3_6 a3_7 a3_8 l3_9 l3_10 l3_11 l3_12 a3_13 a3_14 a3_15 a3_16 l3_17 l3_18 l3_19 l3_20 l3_21 l3_22 a3_23 a3_24 a3_25 a3_26 a3_27 l3_28 a3_29 a3_30 a3_31 a4 = some r) :
  Calls Try.prog 30 #[.agg #[.string a0_0, .string a0_1, .string a0_2, .int .i64 a0_3, .int .i64 a0_4, .int .i64 a0_5, .int .i64 a0_6, .bool a0_7, .int .i64 a0_8, .slice A0_9 l0_9.length c0_9, .slice A0_10 l0_10.length c0_10, .slice A0_11 l0_11.length c0_11, .slice A0_12 l0_12.length c0_12, .slice A0_13 l0_13.length c0_13, .bool a0_14, .bool a0_15, .slice A0_16 l0_16.length c0_16], .pointer (some ⟨g1_, 0, none⟩), .pointer (some ⟨g2_, 0, none⟩), .pointer (some ⟨g3_, 0, none⟩), .pointer (some ⟨g4_, 0, none⟩)] w fun e w' => e = .returned (.bool r) ∧ Below w.heap.size w w' := by
 have hu54 := Try.underlying54
 have hu41 := Try.underlying41
 have HR0_9 := s_a hr0_9
 have HC0_9 := s_a hc0_9
 clear hr0_9 hc0_9
 have HR0_10 := s_a hr0_10
 have HC0_10 := s_a hc0_10
 clear hr0_10 hc0_10
 have HR0_11 := s_a hr0_11
 have HC0_11 := s_a hc0_11
 clear hr0_11 hc0_11
 have HR0_12 := s_a hr0_12
 have HC0_12 := s_a hc0_12
 clear hr0_12 hc0_12
 have HR0_13 := s_a hr0_13
 have HC0_13 := s_a hc0_13
 clear hr0_13 hc0_13
 have HR0_16 := s_a hr0_16
 have HC0_16 := s_a hc0_16
 clear hr0_16 hc0_16
 have HR1_9 := s_a hr1_9
 have HC1_9 := s_a hc1_9
 clear hr1_9 hc1_9
 have HR1_10 := s_a hr1_10
 have HC1_10 := s_a hc1_10
 clear hr1_10 hc1_10
 have HR1_11 := s_a hr1_11
 have HC1_11 := s_a hc1_11
 clear hr1_11 hc1_11
 have HR1_12 := s_a hr1_12
 have HC1_12 := s_a hc1_12
 clear hr1_12 hc1_12
 have HR1_17 := s_a hr1_17
 have HC1_17 := s_a hc1_17
 clear hr1_17 hc1_17
 have HR1_18 := s_a hr1_18
 have HC1_18 := s_a hc1_18
 clear hr1_18 hc1_18
 have HR1_19 := s_a hr1_19
 have HC1_19 := s_a hc1_19
 clear hr1_19 hc1_19
 have HR1_20 := s_a hr1_20
 have HC1_20 := s_a hc1_20
 clear hr1_20 hc1_20
 have HR1_21 := s_a hr1_21
 have HC1_21 := s_a hc1_21
 clear hr1_21 hc1_21
 have HR1_22 := s_a hr1_22
 have HC1_22 := s_a hc1_22
 clear hr1_22 hc1_22
 have HR1_28 := s_a hr1_28
 have HC1_28 := s_a hc1_28
 clear hr1_28 hc1_28
 have HR3_9 := s_a hr3_9
 have HC3_9 := s_a hc3_9
 clear hr3_9 hc3_9
 have HR3_10 := s_a hr3_10
 have HC3_10 := s_a hc3_10
 clear hr3_10 hc3_10
 have HR3_11 := s_a hr3_11
 have HC3_11 := s_a hc3_11
 clear hr3_11 hc3_11
 have HR3_12 := s_a hr3_12
 have HC3_12 := s_a hc3_12
 clear hr3_12 hc3_12
 have HR3_17 := s_a hr3_17
 have HC3_17 := s_a hc3_17
 clear hr3_17 hc3_17
 have HR3_18 := s_a hr3_18
 have HC3_18 := s_a hc3_18
 clear hr3_18 hc3_18
 have HR3_19 := s_a hr3_19
 have HC3_19 := s_a hc3_19
 clear hr3_19 hc3_19
 have HR3_20 := s_a hr3_20
 have HC3_20 := s_a hc3_20
 clear hr3_20 hc3_20
 have HR3_21 := s_a hr3_21
 have HC3_21 := s_a hc3_21
 clear hr3_21 hc3_21
 have HR3_22 := s_a hr3_22
 have HC3_22 := s_a hc3_22
 clear hr3_22 hc3_22
 have HR3_28 := s_a hr3_28
 have HC3_28 := s_a hc3_28
 clear hr3_28 hc3_28
 have BK181 := s_a hbx1
 clear hbx1
 have BK182 := s_a hbx2
 clear hbx2
 have BK183 := s_a hbx3
 clear hbx3
 have BK184 := s_a hbx4
 clear hbx4
 have NB181_182 := s_a hbn1_2
 have NB182_181 := s_a (Ne.symm hbn1_2)
 clear hbn1_2
 have NB181_183 := s_a hbn1_3
 have NB183_181 := s_a (Ne.symm hbn1_3)
 clear hbn1_3
 have NB181_184 := s_a hbn1_4
 have NB184_181 := s_a (Ne.symm hbn1_4)
 clear hbn1_4
 have NB182_183 := s_a hbn2_3
 have NB183_182 := s_a (Ne.symm hbn2_3)
 clear hbn2_3
 have NB182_184 := s_a hbn2_4
 have NB184_182 := s_a (Ne.symm hbn2_4)
 clear hbn2_4
 have NB183_184 := s_a hbn3_4
 have NB184_183 := s_a (Ne.symm hbn3_4)
 clear hbn3_4
 have HB := s_a (Below.refl w.heap.size w)
 have H := h; unfold netpolicy_open_1.f at H
 clear h
 replace H := Option.bind_eq_some_iff.mp H
 obtain ⟨t186, A60, H⟩ := H
 replace H : (if t186 = true then ((api_PolicyRule_31_c32.f k l0_16 a2 a3_0 a3_1 a3_2 a3_3 a3_4 a3_5 a3_6 a3_7 a3_8 l3_9 l3_10 l3_11 l3_12 a3_13 a3_14 a3_15 a3_16 l3_17 l3_18 l3_19 l3_20 l3_21 l3_22 a3_23 a3_24 a3_25 a3_26 a3_27 l3_28 a3_29 a3_30 a3_31 a4).bind fun t187 => (some t187)) else (some false)) = some r := H
 have A6 := s_a A60
 clear A60
 by_cases c7 : t186 = true
 ·subst c7
  (try rw [if_pos rfl] at H)
  replace H := Option.bind_eq_some_iff.mp H
  obtain ⟨t187, A80, H⟩ := H
  replace H : (some t187) = some r := H
  have A8 := s_a A80
  clear A80
  obtain rfl := Option.some.inj H
  go_enter Try.func30, Try.ntmps30
  go_wp2_with (first | ((with_reducible refine gate_dst (N := 5) rfl ?_); refine box_event ?hg (N := 5) ?hd (cs := #[.string a0_0, .string a0_1, .string a0_2, .int .i64 a0_3, .int .i64 a0_4, .int .i64 a0_5, .int .i64 a0_6, .bool a0_7, .int .i64 a0_8, .slice A0_9 l0_9.length c0_9, .slice A0_10 l0_10.length c0_10, .slice A0_11 l0_11.length c0_11, .slice A0_12 l0_12.length c0_12, .slice A0_13 l0_13.length c0_13, .bool a0_14, .bool a0_15, .slice A0_16 l0_16.length c0_16]) (t := 54) ?hr ?_; (case hd => rfl); (case hg => rfl); (case hr => first | (go_simp; done) | (go_simp; rfl)); intro gb185 hg w9 hbox hb; have BK185 := s_a (hbox); have GW185 := s_a ((by rw [hg]; exact (below_size (by exact s_b HB.out)) : w.heap.size ≤ gb185)); have GE185 := s_a ((by rw [hg]; exact (below_size (by exact s_b HB.out)) : w.heap.size ≤ gb185)); have NB181_185 := s_a ((by rw [hg]; exact Nat.ne_of_lt (blk_lt (s_k BK181.out)) : g1_ ≠ gb185)); have NB185_181 := s_a ((by rw [hg]; exact Nat.ne_of_gt (blk_lt (s_k BK181.out)) : gb185 ≠ g1_)); have NB182_185 := s_a ((by rw [hg]; exact Nat.ne_of_lt (blk_lt (s_k BK182.out)) : g2_ ≠ gb185)); have NB185_182 := s_a ((by rw [hg]; exact Nat.ne_of_gt (blk_lt (s_k BK182.out)) : gb185 ≠ g2_)); have NB183_185 := s_a ((by rw [hg]; exact Nat.ne_of_lt (blk_lt (s_k BK183.out)) : g3_ ≠ gb185)); have NB185_183 := s_a ((by rw [hg]; exact Nat.ne_of_gt (blk_lt (s_k BK183.out)) : gb185 ≠ g3_)); have NB184_185 := s_a ((by rw [hg]; exact Nat.ne_of_lt (blk_lt (s_k BK184.out)) : g4_ ≠ gb185)); have NB185_184 := s_a ((by rw [hg]; exact Nat.ne_of_gt (blk_lt (s_k BK184.out)) : gb185 ≠ g4_)); replace BK181 := s_a (blk_below (s_k BK181.out) hb); replace BK182 := s_a (blk_below (s_k BK182.out) hb); replace BK183 := s_a (blk_below (s_k BK183.out) hb); replace BK184 := s_a (blk_below (s_k BK184.out) hb); replace HB := s_a (below_step (by exact s_b HB.out) hb); clear hb hbox hg) | ((with_reducible refine gate_dst (N := 7) rfl ?_); refine wpList_load_row rfl 54 (.tmp 5) rfl gb185 rfl 54 _ (0, 0) _ (s_k BK185.out) Try.underlying54 rfl sz54 ?_) | ((with_reducible refine gate_dst (N := 8) rfl ?_); refine wpList_load_row rfl 41 (.tmp 1) rfl g1_ rfl 41 _ (0, 0) _ (s_k BK181.out) Try.underlying41 rfl sz41 ?_; have hnb10 := NB182_181.out; have hnc10 := NB181_182.out; have hnb11 := NB182_183.out; have hnc11 := NB183_182.out; have hnb12 := NB182_184.out; have hnc12 := NB184_182.out; have hnb13 := NB182_185.out; have hnc13 := NB185_182.out; have hcz14_0 : w9.cell? ⟨g2_, 0, none⟩ = some (.bool a2) := (blk_cell BK182.out 0).trans rfl) | ((with_reducible refine gate_callee (f := 20) rfl ?_); refine goesL_ (some 10) rfl rfl Try.func20 (by kernel_rfl) rfl #[.agg #[.string a0_0, .string a0_1, .string a0_2, .int .i64 a0_3, .int .i64 a0_4, .int .i64 a0_5, .int .i64 a0_6, .bool a0_7, .int .i64 a0_8, .slice A0_9 l0_9.length c0_9, .slice A0_10 l0_10.length c0_10, .slice A0_11 l0_11.length c0_11, .slice A0_12 l0_12.length c0_12, .slice A0_13 l0_13.length c0_13, .bool a0_14, .bool a0_15, .slice A0_16 l0_16.length c0_16], .agg #[.string a1_0, .string a1_1, .string a1_2, .int .i64 a1_3, .int .i64 a1_4, .int .i64 a1_5, .int .i64 a1_6, .bool a1_7, .int .i64 a1_8, .slice A1_9 l1_9.length c1_9, .slice A1_10 l1_10.length c1_10, .slice A1_11 l1_11.length c1_11, .slice A1_12 l1_12.length c1_12, .string a1_13, .int .i64 a1_14, .int .i64 a1_15, .int .i64 a1_16, .slice A1_17 l1_17.length c1_17, .slice A1_18 l1_18.length c1_18, .slice A1_19 l1_19.length c1_19, .slice A1_20 l1_20.length c1_20, .slice A1_21 l1_21.length c1_21, .slice A1_22 l1_22.length c1_22, .int .i64 a1_23, .bool a1_24, .int .i64 a1_25, .int .i64 a1_26, .int .i64 a1_27, .slice A1_28 l1_28.length c1_28, .int .i64 a1_29, .string a1_30, .string a1_31], .bool a2] rfl (by (try simp only [List.map_toArray, List.map_cons, List.map_nil]); first | done | rfl | (simp only [List.length_drop, List.length_take]; rfl)) ?_; (with_reducible refine (netpolicy_isolates.calls k _ _ _ _ _ _ _ _ _ _ _ _ _ _ _ _ _ _ _ _ _ _ _ _ _ _ _ _ _ _ _ _ _ _ _ _ _ _ _ _ _ _ _ _ _ _ _ _ _ _ _ _ _ _ _ _ _ _ _ _ _ _ _ _ _ _ _ _ _ _ _ _ _ _ _ _ _ _ _ _ _ _ _ _ _ _ ?side1 ?side2 ?side3 ?side4 ?side5 ?side6 ?side7 ?side8 ?side9 ?side10 ?side11 ?side12 ?side13 ?side14 ?side15 ?side16 ?side17 ?side18 ?side19 ?side20 ?side21 ?side22 ?side23 ?side24 ?side25 ?side26 ?side27 ?side28 ?side29 ?side30 ?side31 ?side32 ?side33 ?side34 A6.out).mono ?_); (case side1 => exact s_D HR0_9.out HB.out); (case side2 => exact HC0_9.out); (case side3 => exact s_D HR0_10.out HB.out); (case side4 => exact HC0_10.out); (case side5 => exact s_D HR0_11.out HB.out); (case side6 => exact HC0_11.out); (case side7 => exact s_D HR0_12.out HB.out); (case side8 => exact HC0_12.out); (case side9 => exact s_D HR0_13.out HB.out); (case side10 => exact HC0_13.out); (case side11 => exact s_D HR0_16.out HB.out); (case side12 => exact HC0_16.out); (case side13 => exact s_D HR1_9.out HB.out); (case side14 => exact HC1_9.out); (case side15 => exact s_D HR1_10.out HB.out); (case side16 => exact HC1_10.out); (case side17 => exact s_D HR1_11.out HB.out); (case side18 => exact HC1_11.out); (case side19 => exact s_D HR1_12.out HB.out); (case side20 => exact HC1_12.out); (case side21 => exact s_D HR1_17.out HB.out); (case side22 => exact HC1_17.out); (case side23 => exact s_D HR1_18.out HB.out); (case side24 => exact HC1_18.out); (case side25 => exact s_D HR1_19.out HB.out); (case side26 => exact HC1_19.out); (case side27 => exact s_D HR1_20.out HB.out); (case side28 => exact HC1_20.out); (case side29 => exact s_D HR1_21.out HB.out); (case side30 => exact HC1_21.out); (case side31 => exact s_D HR1_22.out HB.out); (case side32 => exact HC1_22.out); (case side33 => exact s_D HR1_28.out HB.out); (case side34 => exact HC1_28.out); rintro e w15 ⟨rfl, hb⟩; refine ⟨_, rfl, ?_⟩; replace BK181 := s_a (blk_below (s_k BK181.out) hb); replace BK182 := s_a (blk_below (s_k BK182.out) hb); replace BK183 := s_a (blk_below (s_k BK183.out) hb); replace BK184 := s_a (blk_below (s_k BK184.out) hb); replace BK185 := s_a (blk_below (s_k BK185.out) hb); replace HB := s_a (below_step (by exact s_b HB.out) hb); (try clear hb); have hnb16 := NB185_181.out; have hnc16 := NB181_185.out; have hnb17 := NB185_183.out; have hnc17 := NB183_185.out; have hnb18 := NB185_184.out; have hnc18 := NB184_185.out; obtain ⟨hcz19_0, hcz19_1, hcz19_2, hcz19_3, hcz19_4, hcz19_5, hcz19_6, hcz19_7, hcz19_8, hcz19_9, hcz19_10, hcz19_11, hcz19_12, hcz19_13, hcz19_14, hcz19_15, hcz19_16⟩ := cells54 BK185.out) | (go_at_call 31; (with_reducible refine (api_PolicyRule_31_c32.calls k _ _ _ g2_ g3_ g4_ a2 a3_0 a3_1 a3_2 a3_3 a3_4 a3_5 a3_6 a3_7 a3_8 A3_9 c3_9 l3_9 A3_10 c3_10 l3_10 A3_11 c3_11 l3_11 A3_12 c3_12 l3_12 a3_13 a3_14 a3_15 a3_16 A3_17 c3_17 l3_17 A3_18 c3_18 l3_18 A3_19 c3_19 l3_19 A3_20 c3_20 l3_20 A3_21 c3_21 l3_21 A3_22 c3_22 l3_22 a3_23 a3_24 a3_25 a3_26 a3_27 A3_28 c3_28 l3_28 a3_29 a3_30 a3_31 a4 _ _ ?side1 ?side2 ?side3 ?side4 ?side5 ?side6 ?side7 ?side8 ?side9 ?side10 ?side11 ?side12 ?side13 ?side14 ?side15 ?side16 ?side17 ?side18 ?side19 ?side20 ?side21 ?side22 ?side23 ?side24 ?side25 ?side26 ?side27 ?side28 ?side29 ?side30 A8.out).mono ?_); (case side1 => exact s_D HR0_16.out HB.out); (case side2 => exact HC0_16.out); (case side3 => exact s_D HR3_9.out HB.out); (case side4 => exact HC3_9.out); (case side5 => exact s_D HR3_10.out HB.out); (case side6 => exact HC3_10.out); (case side7 => exact s_D HR3_11.out HB.out); (case side8 => exact HC3_11.out); (case side9 => exact s_D HR3_12.out HB.out); (case side10 => exact HC3_12.out); (case side11 => exact s_D HR3_17.out HB.out); (case side12 => exact HC3_17.out); (case side13 => exact s_D HR3_18.out HB.out); (case side14 => exact HC3_18.out); (case side15 => exact s_D HR3_19.out HB.out); (case side16 => exact HC3_19.out); (case side17 => exact s_D HR3_20.out HB.out); (case side18 => exact HC3_20.out); (case side19 => exact s_D HR3_21.out HB.out); (case side20 => exact HC3_21.out); (case side21 => exact s_D HR3_22.out HB.out); (case side22 => exact HC3_22.out); (case side23 => exact s_D HR3_28.out HB.out); (case side24 => exact HC3_28.out); (case side25 => exact (by exact s_k BK182.out)); (case side26 => exact (by exact s_k BK183.out)); (case side27 => exact (by exact s_k BK184.out)); (case side28 => exact NB182_183.out); (case side29 => exact NB182_184.out); (case side30 => exact NB183_184.out); rintro e w20 ⟨rfl, hb⟩; (try clear A8); replace BK181 := s_a (blk_below (s_k BK181.out) hb); replace BK182 := s_a (blk_below (s_k BK182.out) hb); replace BK183 := s_a (blk_below (s_k BK183.out) hb); replace BK184 := s_a (blk_below (s_k BK184.out) hb); replace BK185 := s_a (blk_below (s_k BK185.out) hb); replace HB := s_a (below_step (by exact s_b HB.out) hb); (try clear hb)))
  go_ret
  exact ⟨by first | rfl | (simp [errW_none, errW_some] <;> rfl) | (simp [*, errW_none, errW_some] <;> rfl), by exact s_b HB.out⟩
 ·replace c7 := Bool.eq_false_iff.mpr c7
  subst c7
  (try rw [if_neg (show ¬ (false = true) by decide)] at H)
  obtain rfl := Option.some.inj H
  go_enter Try.func30, Try.ntmps30
  go_wp2_with (first | ((with_reducible refine gate_dst (N := 5) rfl ?_); refine box_event ?hg (N := 5) ?hd (cs := #[.string a0_0, .string a0_1, .string a0_2, .int .i64 a0_3, .int .i64 a0_4, .int .i64 a0_5, .int .i64 a0_6, .bool a0_7, .int .i64 a0_8, .slice A0_9 l0_9.length c0_9, .slice A0_10 l0_10.length c0_10, .slice A0_11 l0_11.length c0_11, .slice A0_12 l0_12.length c0_12, .slice A0_13 l0_13.length c0_13, .bool a0_14, .bool a0_15, .slice A0_16 l0_16.length c0_16]) (t := 54) ?hr ?_; (case hd => rfl); (case hg => rfl); (case hr => first | (go_simp; done) | (go_simp; rfl)); intro gb185 hg w21 hbox hb; have BK185 := s_a (hbox); have GW185 := s_a ((by rw [hg]; exact (below_size (by exact s_b HB.out)) : w.heap.size ≤ gb185)); have GE185 := s_a ((by rw [hg]; exact (below_size (by exact s_b HB.out)) : w.heap.size ≤ gb185)); have NB181_185 := s_a ((by rw [hg]; exact Nat.ne_of_lt (blk_lt (s_k BK181.out)) : g1_ ≠ gb185)); have NB185_181 := s_a ((by rw [hg]; exact Nat.ne_of_gt (blk_lt (s_k BK181.out)) : gb185 ≠ g1_)); have NB182_185 := s_a ((by rw [hg]; exact Nat.ne_of_lt (blk_lt (s_k BK182.out)) : g2_ ≠ gb185)); have NB185_182 := s_a ((by rw [hg]; exact Nat.ne_of_gt (blk_lt (s_k BK182.out)) : gb185 ≠ g2_)); have NB183_185 := s_a ((by rw [hg]; exact Nat.ne_of_lt (blk_lt (s_k BK183.out)) : g3_ ≠ gb185)); have NB185_183 := s_a ((by rw [hg]; exact Nat.ne_of_gt (blk_lt (s_k BK183.out)) : gb185 ≠ g3_)); have NB184_185 := s_a ((by rw [hg]; exact Nat.ne_of_lt (blk_lt (s_k BK184.out)) : g4_ ≠ gb185)); have NB185_184 := s_a ((by rw [hg]; exact Nat.ne_of_gt (blk_lt (s_k BK184.out)) : gb185 ≠ g4_)); replace BK181 := s_a (blk_below (s_k BK181.out) hb); replace BK182 := s_a (blk_below (s_k BK182.out) hb); replace BK183 := s_a (blk_below (s_k BK183.out) hb); replace BK184 := s_a (blk_below (s_k BK184.out) hb); replace HB := s_a (below_step (by exact s_b HB.out) hb); clear hb hbox hg) | ((with_reducible refine gate_dst (N := 7) rfl ?_); refine wpList_load_row rfl 54 (.tmp 5) rfl gb185 rfl 54 _ (0, 0) _ (s_k BK185.out) Try.underlying54 rfl sz54 ?_) | ((with_reducible refine gate_dst (N := 8) rfl ?_); refine wpList_load_row rfl 41 (.tmp 1) rfl g1_ rfl 41 _ (0, 0) _ (s_k BK181.out) Try.underlying41 rfl sz41 ?_; have hnb22 := NB182_181.out; have hnc22 := NB181_182.out; have hnb23 := NB182_183.out; have hnc23 := NB183_182.out; have hnb24 := NB182_184.out; have hnc24 := NB184_182.out; have hnb25 := NB182_185.out; have hnc25 := NB185_182.out; have hcz26_0 : w21.cell? ⟨g2_, 0, none⟩ = some (.bool a2) := (blk_cell BK182.out 0).trans rfl) | ((with_reducible refine gate_callee (f := 20) rfl ?_); refine goesL_ (some 10) rfl rfl Try.func20 (by kernel_rfl) rfl #[.agg #[.string a0_0, .string a0_1, .string a0_2, .int .i64 a0_3, .int .i64 a0_4, .int .i64 a0_5, .int .i64 a0_6, .bool a0_7, .int .i64 a0_8, .slice A0_9 l0_9.length c0_9, .slice A0_10 l0_10.length c0_10, .slice A0_11 l0_11.length c0_11, .slice A0_12 l0_12.length c0_12, .slice A0_13 l0_13.length c0_13, .bool a0_14, .bool a0_15, .slice A0_16 l0_16.length c0_16], .agg #[.string a1_0, .string a1_1, .string a1_2, .int .i64 a1_3, .int .i64 a1_4, .int .i64 a1_5, .int .i64 a1_6, .bool a1_7, .int .i64 a1_8, .slice A1_9 l1_9.length c1_9, .slice A1_10 l1_10.length c1_10, .slice A1_11 l1_11.length c1_11, .slice A1_12 l1_12.length c1_12, .string a1_13, .int .i64 a1_14, .int .i64 a1_15, .int .i64 a1_16, .slice A1_17 l1_17.length c1_17, .slice A1_18 l1_18.length c1_18, .slice A1_19 l1_19.length c1_19, .slice A1_20 l1_20.length c1_20, .slice A1_21 l1_21.length c1_21, .slice A1_22 l1_22.length c1_22, .int .i64 a1_23, .bool a1_24, .int .i64 a1_25, .int .i64 a1_26, .int .i64 a1_27, .slice A1_28 l1_28.length c1_28, .int .i64 a1_29, .string a1_30, .string a1_31], .bool a2] rfl (by (try simp only [List.map_toArray, List.map_cons, List.map_nil]); first | done | rfl | (simp only [List.length_drop, List.length_take]; rfl)) ?_; (with_reducible refine (netpolicy_isolates.calls k _ _ _ _ _ _ _ _ _ _ _ _ _ _ _ _ _ _ _ _ _ _ _ _ _ _ _ _ _ _ _ _ _ _ _ _ _ _ _ _ _ _ _ _ _ _ _ _ _ _ _ _ _ _ _ _ _ _ _ _ _ _ _ _ _ _ _ _ _ _ _ _ _ _ _ _ _ _ _ _ _ _ _ _ _ _ ?side1 ?side2 ?side3 ?side4 ?side5 ?side6 ?side7 ?side8 ?side9 ?side10 ?side11 ?side12 ?side13 ?side14 ?side15 ?side16 ?side17 ?side18 ?side19 ?side20 ?side21 ?side22 ?side23 ?side24 ?side25 ?side26 ?side27 ?side28 ?side29 ?side30 ?side31 ?side32 ?side33 ?side34 A6.out).mono ?_); (case side1 => exact s_D HR0_9.out HB.out); (case side2 => exact HC0_9.out); (case side3 => exact s_D HR0_10.out HB.out); (case side4 => exact HC0_10.out); (case side5 => exact s_D HR0_11.out HB.out); (case side6 => exact HC0_11.out); (case side7 => exact s_D HR0_12.out HB.out); (case side8 => exact HC0_12.out); (case side9 => exact s_D HR0_13.out HB.out); (case side10 => exact HC0_13.out); (case side11 => exact s_D HR0_16.out HB.out); (case side12 => exact HC0_16.out); (case side13 => exact s_D HR1_9.out HB.out); (case side14 => exact HC1_9.out); (case side15 => exact s_D HR1_10.out HB.out); (case side16 => exact HC1_10.out); (case side17 => exact s_D HR1_11.out HB.out); (case side18 => exact HC1_11.out); (case side19 => exact s_D HR1_12.out HB.out); (case side20 => exact HC1_12.out); (case side21 => exact s_D HR1_17.out HB.out); (case side22 => exact HC1_17.out); (case side23 => exact s_D HR1_18.out HB.out); (case side24 => exact HC1_18.out); (case side25 => exact s_D HR1_19.out HB.out); (case side26 => exact HC1_19.out); (case side27 => exact s_D HR1_20.out HB.out); (case side28 => exact HC1_20.out); (case side29 => exact s_D HR1_21.out HB.out); (case side30 => exact HC1_21.out); (case side31 => exact s_D HR1_22.out HB.out); (case side32 => exact HC1_22.out); (case side33 => exact s_D HR1_28.out HB.out); (case side34 => exact HC1_28.out); rintro e w27 ⟨rfl, hb⟩; refine ⟨_, rfl, ?_⟩; replace BK181 := s_a (blk_below (s_k BK181.out) hb); replace BK182 := s_a (blk_below (s_k BK182.out) hb); replace BK183 := s_a (blk_below (s_k BK183.out) hb); replace BK184 := s_a (blk_below (s_k BK184.out) hb); replace BK185 := s_a (blk_below (s_k BK185.out) hb); replace HB := s_a (below_step (by exact s_b HB.out) hb); (try clear hb)))
  go_ret
  exact ⟨by first | rfl | (simp [errW_none, errW_some] <;> rfl) | (simp [*, errW_none, errW_some] <;> rfl), by exact s_b HB.out⟩
def api_NetworkPolicy_26_c30.l0 : Nat → List (S54) → Int → Int → ByteArray → ByteArray → ByteArray → Int → Int → Int → Int → Bool → Int → List (S72) → List (S110) → List ByteArray → List (S112) → ByteArray → Int → Int → Int → List (S117) → List (S74) → List (S119) → List (S121) → List (S123) → List (S125) → Int → Bool → Int → Int → Int → List (S127) → Int → ByteArray → ByteArray → Bool → ByteArray → ByteArray → ByteArray → Int → Int → Int → Int → Bool → Int → List (S72) → List (S110) → List ByteArray → List (S112) → ByteArray → Int → Int → Int → List (S117) → List (S74) → List (S119) → List (S121) → List (S123) → List (S125) → Int → Bool → Int → Int → Int → List (S127) → Int → ByteArray → ByteArray → Int → Option (Int)
 | 0, _, _, _, _, _, _, _, _, _, _, _, _, _, _, _, _, _, _, _, _, _, _, _, _, _, _, _, _, _, _, _, _, _, _, _, _, _, _, _, _, _, _, _, _, _, _, _, _, _, _, _, _, _, _, _, _, _, _, _, _, _, _, _, _, _, _, _, _, _ => none
 | k + 1, x0, x7, x8, x198000, x198001, x198002, x198003, x198004, x198005, x198006, x198007, x198008, x198009, x198010, x198011, x198012, x198013, x198014, x198015, x198016, x198017, x198018, x198019, x198020, x198021, x198022, x198023, x198024, x198025, x198026, x198027, x198028, x198029, x198030, x198031, x199000, x200000, x200001, x200002, x200003, x200004, x200005, x200006, x200007, x200008, x200009, x200010, x200011, x200012, x200013, x200014, x200015, x200016, x200017, x200018, x200019, x200020, x200021, x200022, x200023, x200024, x200025, x200026, x200027, x200028, x200029, x200030, x200031, x201000 => if x8 < x7 then (if 0 ≤ x8 then (if x8 < (x0.length : Int) then ((netpolicy_open_1.f k ((rd_T54 x0 x8).f0.f0) ((rd_T54 x0 x8).f0.f1) ((rd_T54 x0 x8).f0.f2) ((rd_T54 x0 x8).f0.f3) ((rd_T54 x0 x8).f0.f4) ((rd_T54 x0 x8).f0.f5) ((rd_T54 x0 x8).f0.f6) ((rd_T54 x0 x8).f0.f7) ((rd_T54 x0 x8).f0.f8) ((rd_T54 x0 x8).f0.f9) ((rd_T54 x0 x8).f0.f10) ((rd_T54 x0 x8).f0.f11) ((rd_T54 x0 x8).f0.f12) ((rd_T54 x0 x8).f1) ((rd_T54 x0 x8).f2) ((rd_T54 x0 x8).f3) ((rd_T54 x0 x8).f4) x198000 x198001 x198002 x198003 x198004 x198005 x198006 x198007 x198008 x198009 x198010 x198011 x198012 x198013 x198014 x198015 x198016 x198017 x198018 x198019 x198020 x198021 x198022 x198023 x198024 x198025 x198026 x198027 x198028 x198029 x198030 x198031 x199000 x200000 x200001 x200002 x200003 x200004 x200005 x200006 x200007 x200008 x200009 x200010 x200011 x200012 x200013 x200014 x200015 x200016 x200017 x200018 x200019 x200020 x200021 x200022 x200023 x200024 x200025 x200026 x200027 x200028 x200029 x200030 x200031 x201000).bind fun t202 => (if t202 = true then (some x8) else (api_NetworkPolicy_26_c30.l0 k x0 x7 (wrap64 (x8 + 1)) x198000 x198001 x198002 x198003 x198004 x198005 x198006 x198007 x198008 x198009 x198010 x198011 x198012 x198013 x198014 x198015 x198016 x198017 x198018 x198019 x198020 x198021 x198022 x198023 x198024 x198025 x198026 x198027 x198028 x198029 x198030 x198031 x199000 x200000 x200001 x200002 x200003 x200004 x200005 x200006 x200007 x200008 x200009 x200010 x200011 x200012 x200013 x200014 x200015 x200016 x200017 x200018 x200019 x200020 x200021 x200022 x200023 x200024 x200025 x200026 x200027 x200028 x200029 x200030 x200031 x201000))) else (none)) else (none)) else (some (-1))
def api_NetworkPolicy_26_c30.f (k : Nat) (l0 : List (S54)) (a200_0 : ByteArray) (a200_1 : ByteArray) (a200_2 : ByteArray) (a200_3 : Int) (a200_4 : Int) (a200_5 : Int) (a200_6 : Int) (a200_7 : Bool) (a200_8 : Int) (l200_9 : List (S72)) (l200_10 : List (S110)) (l200_11 : List ByteArray) (l200_12 : List (S112)) (a200_13 : ByteArray) (a200_14 : Int) (a200_15 : Int) (a200_16 : Int) (l200_17 : List (S117)) (l200_18 : List (S74)) (l200_19 : List (S119)) (l200_20 : List (S121)) (l200_21 : List (S123)) (l200_22 : List (S125)) (a200_23 : Int) (a200_24 : Bool) (a200_25 : Int) (a200_26 : Int) (a200_27 : Int) (l200_28 : List (S127)) (a200_29 : Int) (a200_30 : ByteArray) (a200_31 : ByteArray) (a201 : Bool) (a202_0 : ByteArray) (a202_1 : ByteArray) (a202_2 : ByteArray) (a202_3 : Int) (a202_4 : Int) (a202_5 : Int) (a202_6 : Int) (a202_7 : Bool) (a202_8 : Int) (l202_9 : List (S72)) (l202_10 : List (S110)) (l202_11 : List ByteArray) (l202_12 : List (S112)) (a202_13 : ByteArray) (a202_14 : Int) (a202_15 : Int) (a202_16 : Int) (l202_17 : List (S117)) (l202_18 : List (S74)) (l202_19 : List (S119)) (l202_20 : List (S121)) (l202_21 : List (S123)) (l202_22 : List (S125)) (a202_23 : Int) (a202_24 : Bool) (a202_25 : Int) (a202_26 : Int) (a202_27 : Int) (l202_28 : List (S127)) (a202_29 : Int) (a202_30 : ByteArray) (a202_31 : ByteArray) (a203 : Int) : Option (Int) := api_NetworkPolicy_26_c30.l0 k l0 (l0.length : Int) 0 a200_0 a200_1 a200_2 a200_3 a200_4 a200_5 a200_6 a200_7 a200_8 l200_9 l200_10 l200_11 l200_12 a200_13 a200_14 a200_15 a200_16 l200_17 l200_18 l200_19 l200_20 l200_21 l200_22 a200_23 a200_24 a200_25 a200_26 a200_27 l200_28 a200_29 a200_30 a200_31 a201 a202_0 a202_1 a202_2 a202_3 a202_4 a202_5 a202_6 a202_7 a202_8 l202_9 l202_10 l202_11 l202_12 a202_13 a202_14 a202_15 a202_16 l202_17 l202_18 l202_19 l202_20 l202_21 l202_22 a202_23 a202_24 a202_25 a202_26 a202_27 l202_28 a202_29 a202_30 a202_31 a203
theorem api_NetworkPolicy_26_c30.mono_l : ∀ k, (∀ y0 y1 y2 y3 y4 y5 y6 y7 y8 y9 y10 y11 y12 y13 y14 y15 y16 y17 y18 y19 y20 y21 y22 y23 y24 y25 y26 y27 y28 y29 y30 y31 y32 y33 y34 y35 y36 y37 y38 y39 y40 y41 y42 y43 y44 y45 y46 y47 y48 y49 y50 y51 y52 y53 y54 y55 y56 y57 y58 y59 y60 y61 y62 y63 y64 y65 y66 y67 y68, LeO (api_NetworkPolicy_26_c30.l0 k y0 y1 y2 y3 y4 y5 y6 y7 y8 y9 y10 y11 y12 y13 y14 y15 y16 y17 y18 y19 y20 y21 y22 y23 y24 y25 y26 y27 y28 y29 y30 y31 y32 y33 y34 y35 y36 y37 y38 y39 y40 y41 y42 y43 y44 y45 y46 y47 y48 y49 y50 y51 y52 y53 y54 y55 y56 y57 y58 y59 y60 y61 y62 y63 y64 y65 y66 y67 y68) (api_NetworkPolicy_26_c30.l0 (k + 1) y0 y1 y2 y3 y4 y5 y6 y7 y8 y9 y10 y11 y12 y13 y14 y15 y16 y17 y18 y19 y20 y21 y22 y23 y24 y25 y26 y27 y28 y29 y30 y31 y32 y33 y34 y35 y36 y37 y38 y39 y40 y41 y42 y43 y44 y45 y46 y47 y48 y49 y50 y51 y52 y53 y54 y55 y56 y57 y58 y59 y60 y61 y62 y63 y64 y65 y66 y67 y68))
 | 0 => fun _ _ _ _ _ _ _ _ _ _ _ _ _ _ _ _ _ _ _ _ _ _ _ _ _ _ _ _ _ _ _ _ _ _ _ _ _ _ _ _ _ _ _ _ _ _ _ _ _ _ _ _ _ _ _ _ _ _ _ _ _ _ _ _ _ _ _ _ _ r h => by simp [api_NetworkPolicy_26_c30.l0] at h
 | k + 1 => by
  have ih0 := api_NetworkPolicy_26_c30.mono_l k
  ·intro y0 y1 y2 y3 y4 y5 y6 y7 y8 y9 y10 y11 y12 y13 y14 y15 y16 y17 y18 y19 y20 y21 y22 y23 y24 y25 y26 y27 y28 y29 y30 y31 y32 y33 y34 y35 y36 y37 y38 y39 y40 y41 y42 y43 y44 y45 y46 y47 y48 y49 y50 y51 y52 y53 y54 y55 y56 y57 y58 y59 y60 y61 y62 y63 y64 y65 y66 y67 y68
   unfold api_NetworkPolicy_26_c30.l0
   repeat' first
   | (with_reducible exact ih0 _ _ _ _ _ _ _ _ _ _ _ _ _ _ _ _ _ _ _ _ _ _ _ _ _ _ _ _ _ _ _ _ _ _ _ _ _ _ _ _ _ _ _ _ _ _ _ _ _ _ _ _ _ _ _ _ _ _ _ _ _ _ _ _ _ _ _ _ _)
   | (with_reducible exact netpolicy_open_1.mono _ _ _ _ _ _ _ _ _ _ _ _ _ _ _ _ _ _ _ _ _ _ _ _ _ _ _ _ _ _ _ _ _ _ _ _ _ _ _ _ _ _ _ _ _ _ _ _ _ _ _ _ _ _ _ _ _ _ _ _ _ _ _ _ _ _ _ _ _ _ _ _ _ _ _ _ _ _ _ _ _ _ _ _)
   | (with_reducible exact LeO.refl _)
   | (with_reducible exact LeO.none _)
   | (with_reducible refine LeO.ite ?_ ?_)
   | (with_reducible refine LeO.bind ?_ (fun _ => ?_))
   | exact ih0 _ _ _ _ _ _ _ _ _ _ _ _ _ _ _ _ _ _ _ _ _ _ _ _ _ _ _ _ _ _ _ _ _ _ _ _ _ _ _ _ _ _ _ _ _ _ _ _ _ _ _ _ _ _ _ _ _ _ _ _ _ _ _ _ _ _ _ _ _
   | exact netpolicy_open_1.mono _ _ _ _ _ _ _ _ _ _ _ _ _ _ _ _ _ _ _ _ _ _ _ _ _ _ _ _ _ _ _ _ _ _ _ _ _ _ _ _ _ _ _ _ _ _ _ _ _ _ _ _ _ _ _ _ _ _ _ _ _ _ _ _ _ _ _ _ _ _ _ _ _ _ _ _ _ _ _ _ _ _ _ _
   | exact LeO.none _
   | refine LeO.ite ?_ ?_
   | refine LeO.bind ?_ (fun _ => ?_)
theorem api_NetworkPolicy_26_c30.mono : ∀ a0 a1 a2 a3 a4 a5 a6 a7 a8 a9 a10 a11 a12 a13 a14 a15 a16 a17 a18 a19 a20 a21 a22 a23 a24 a25 a26 a27 a28 a29 a30 a31 a32 a33 a34 a35 a36 a37 a38 a39 a40 a41 a42 a43 a44 a45 a46 a47 a48 a49 a50 a51 a52 a53 a54 a55 a56 a57 a58 a59 a60 a61 a62 a63 a64 a65 a66 k, LeO (api_NetworkPolicy_26_c30.f k a0 a1 a2 a3 a4 a5 a6 a7 a8 a9 a10 a11 a12 a13 a14 a15 a16 a17 a18 a19 a20 a21 a22 a23 a24 a25 a26 a27 a28 a29 a30 a31 a32 a33 a34 a35 a36 a37 a38 a39 a40 a41 a42 a43 a44 a45 a46 a47 a48 a49 a50 a51 a52 a53 a54 a55 a56 a57 a58 a59 a60 a61 a62 a63 a64 a65 a66) (api_NetworkPolicy_26_c30.f (k + 1) a0 a1 a2 a3 a4 a5 a6 a7 a8 a9 a10 a11 a12 a13 a14 a15 a16 a17 a18 a19 a20 a21 a22 a23 a24 a25 a26 a27 a28 a29 a30 a31 a32 a33 a34 a35 a36 a37 a38 a39 a40 a41 a42 a43 a44 a45 a46 a47 a48 a49 a50 a51 a52 a53 a54 a55 a56 a57 a58 a59 a60 a61 a62 a63 a64 a65 a66) := by
 intro a0 a1 a2 a3 a4 a5 a6 a7 a8 a9 a10 a11 a12 a13 a14 a15 a16 a17 a18 a19 a20 a21 a22 a23 a24 a25 a26 a27 a28 a29 a30 a31 a32 a33 a34 a35 a36 a37 a38 a39 a40 a41 a42 a43 a44 a45 a46 a47 a48 a49 a50 a51 a52 a53 a54 a55 a56 a57 a58 a59 a60 a61 a62 a63 a64 a65 a66 k
 have ih0 := api_NetworkPolicy_26_c30.mono_l k
 unfold api_NetworkPolicy_26_c30.f
 repeat' first
   | (with_reducible exact ih0 _ _ _ _ _ _ _ _ _ _ _ _ _ _ _ _ _ _ _ _ _ _ _ _ _ _ _ _ _ _ _ _ _ _ _ _ _ _ _ _ _ _ _ _ _ _ _ _ _ _ _ _ _ _ _ _ _ _ _ _ _ _ _ _ _ _ _ _ _)
   | (with_reducible exact netpolicy_open_1.mono _ _ _ _ _ _ _ _ _ _ _ _ _ _ _ _ _ _ _ _ _ _ _ _ _ _ _ _ _ _ _ _ _ _ _ _ _ _ _ _ _ _ _ _ _ _ _ _ _ _ _ _ _ _ _ _ _ _ _ _ _ _ _ _ _ _ _ _ _ _ _ _ _ _ _ _ _ _ _ _ _ _ _ _)
   | (with_reducible exact LeO.refl _)
   | (with_reducible exact LeO.none _)
   | (with_reducible refine LeO.ite ?_ ?_)
   | (with_reducible refine LeO.bind ?_ (fun _ => ?_))
   | exact ih0 _ _ _ _ _ _ _ _ _ _ _ _ _ _ _ _ _ _ _ _ _ _ _ _ _ _ _ _ _ _ _ _ _ _ _ _ _ _ _ _ _ _ _ _ _ _ _ _ _ _ _ _ _ _ _ _ _ _ _ _ _ _ _ _ _ _ _ _ _
   | exact netpolicy_open_1.mono _ _ _ _ _ _ _ _ _ _ _ _ _ _ _ _ _ _ _ _ _ _ _ _ _ _ _ _ _ _ _ _ _ _ _ _ _ _ _ _ _ _ _ _ _ _ _ _ _ _ _ _ _ _ _ _ _ _ _ _ _ _ _ _ _ _ _ _ _ _ _ _ _ _ _ _ _ _ _ _ _ _ _ _
   | exact LeO.none _
   | refine LeO.ite ?_ ?_
   | refine LeO.bind ?_ (fun _ => ?_)
set_option maxHeartbeats 8000000 in
set_option maxRecDepth 100000 in
theorem api_NetworkPolicy_26_c30.calls (k : Nat) (A0 : Option Addr) (c0 : Nat) (l0 : List (S54)) (g200_ : Nat) (g201_ : Nat) (g202_ : Nat) (g203_ : Nat) (a200_0 : ByteArray) (a200_1 : ByteArray) (a200_2 : ByteArray) (a200_3 : Int) (a200_4 : Int) (a200_5 : Int) (a200_6 : Int) (a200_7 : Bool) (a200_8 : Int) (A200_9 : Option Addr) (c200_9 : Nat) (l200_9 : List (S72)) (A200_10 : Option Addr) (c200_10 : Nat) (l200_10 : List (S110)) (A200_11 : Option Addr) (c200_11 : Nat) (l200_11 : List ByteArray) (A200_12 : Option Addr) (c200_12 : Nat) (l200_12 : List (S112)) (a200_13 : ByteArray) (a200_14 : Int) (a200_15 : Int) (a200_16 : Int) (A200_17 : Option Addr) (c200_17 : Nat) (l200_17 : List (S117)) (A200_18 : Option Addr) (c200_18 : Nat) (l200_18 : List (S74)) (A200_19 : Option Addr) (c200_19 : Nat) (l200_19 : List (S119)) (A200_20 : Option Addr) (c200_20 : Nat) (l200_20 : List (S121)) (A200_21 : Option Addr) (c200_21 : Nat) (l200_21 : List (S123)) (A200_22 : Option Addr) (c200_22 : Nat) (l200_22 : List (S125)) (a200_23 : Int) (a200_24 : Bool) (a200_25 : Int) (a200_26 : Int) (a200_27 : Int) (A200_28 : Option Addr) (c200_28 : Nat) (l200_28 : List (S127)) (a200_29 : Int) (a200_30 : ByteArray) (a200_31 : ByteArray) (a201 : Bool) (a202_0 : ByteArray) (a202_1 : ByteArray) (a202_2 : ByteArray) (a202_3 : Int) (a202_4 : Int) (a202_5 : Int) (a202_6 : Int) (a202_7 : Bool) (a202_8 : Int) (A202_9 : Option Addr) (c202_9 : Nat) (l202_9 : List (S72)) (A202_10 : Option Addr) (c202_10 : Nat) (l202_10 : List (S110)) (A202_11 : Option Addr) (c202_11 : Nat) (l202_11 : List ByteArray) (A202_12 : Option Addr) (c202_12 : Nat) (l202_12 : List (S112)) (a202_13 : ByteArray) (a202_14 : Int) (a202_15 : Int) (a202_16 : Int) (A202_17 : Option Addr) (c202_17 : Nat) (l202_17 : List (S117)) (A202_18 : Option Addr) (c202_18 : Nat) (l202_18 : List (S74)) (A202_19 : Option Addr) (c202_19 : Nat) (l202_19 : List (S119)) (A202_20 : Option Addr) (c202_20 : Nat) (l202_20 : List (S121)) (A202_21 : Option Addr) (c202_21 : Nat) (l202_21 : List (S123)) (A202_22 : Option Addr) (c202_22 : Nat) (l202_22 : List (S125)) (a202_23 : Int) (a202_24 : Bool) (a202_25 : Int) (a202_26 : Int) (a202_27 : Int) (A202_28 : Option Addr) (c202_28 : Nat) (l202_28 : List (S127)) (a202_29 : Int) (a202_30 : ByteArray) (a202_31 : ByteArray) (a203 : Int) (r : Int) (w : World) (hr0 : Kd.C k54 w A0 l0.length l0) (hc0 : l0.length ≤ c0) (hr200_9 : Kd.C k72 w A200_9 l200_9.length l200_9) (hc200_9 : l200_9.length ≤ c200_9) (hr200_10 : Kd.C k110 w A200_10 l200_10.length l200_10) (hc200_10 : l200_10.length ≤ c200_10) (hr200_11 : Kd.C Kd.string w A200_11 l200_11.length l200_11) (hc200_11 : l200_11.length ≤ c200_11) (hr200_12 : Kd.C k112 w A200_12 l200_12.length l200_12) (hc200_12 : l200_12.length ≤ c200_12) (hr200_17 : Kd.C k117 w A200_17 l200_17.length l200_17) (hc200_17 : l200_17.length ≤ c200_17) (hr200_18 : Kd.C k74 w A200_18 l200_18.length l200_18) (hc200_18 : l200_18.length ≤ c200_18) (hr200_19 : Kd.C k119 w A200_19 l200_19.length l200_19) (hc200_19 : l200_19.length ≤ c200_19) (hr200_20 : Kd.C k121 w A200_20 l200_20.length l200_20) (hc200_20 : l200_20.length ≤ c200_20) (hr200_21 : Kd.C k123 w A200_21 l200_21.length l200_21) (hc200_21 : l200_21.length ≤ c200_21) (hr200_22 : Kd.C k125 w A200_22 l200_22.length l200_22) (hc200_22 : l200_22.length ≤ c200_22) (hr200_28 : Kd.C k127 w A200_28 l200_28.length l200_28) (hc200_28 : l200_28.length ≤ c200_28) (hr202_9 : Kd.C k72 w A202_9 l202_9.length l202_9) (hc202_9 : l202_9.length ≤ c202_9) (hr202_10 : Kd.C k110 w A202_10 l202_10.length l202_10) (hc202_10 : l202_10.length ≤ c202_10) (hr202_11 : Kd.C Kd.string w A202_11 l202_11.length l202_11) (hc202_11 : l202_11.length ≤ c202_11) (hr202_12 : Kd.C k112 w A202_12 l202_12.length l202_12) (hc202_12 : l202_12.length ≤ c202_12) (hr202_17 : Kd.C k117 w A202_17 l202_17.length l202_17) (hc202_17 : l202_17.length ≤ c202_17) (hr202_18 : Kd.C k74 w A202_18 l202_18.length l202_18) (hc202_18 : l202_18.length ≤ c202_18) (hr202_19 : Kd.C k119 w A202_19 l202_19.length l202_19) (hc202_19 : l202_19.length ≤ c202_19) (hr202_20 : Kd.C k121 w A202_20 l202_20.length l202_20) (hc202_20 : l202_20.length ≤ c202_20) (hr202_21 : Kd.C k123 w A202_21 l202_21.length l202_21) (hc202_21 : l202_21.length ≤ c202_21) (hr202_22 : Kd.C k125 w A202_22 l202_22.length l202_22) (hc202_22 : l202_22.length ≤ c202_22) (hr202_28 : Kd.C k127 w A202_28 l202_28.length l202_28) (hc202_28 : l202_28.length ≤ c202_28) (hbx200 : w.heap[g200_]? = some (.cells #[.string a200_0, .string a200_1, .string a200_2, .int .i64 a200_3, .int .i64 a200_4, .int .i64 a200_5, .int .i64 a200_6, .bool a200_7, .int .i64 a200_8, .slice A200_9 l200_9.length c200_9, .slice A200_10 l200_10.length c200_10, .slice A200_11 l200_11.length c200_11, .slice A200_12 l200_12.length c200_12, .string a200_13, .int .i64 a200_14, .int .i64 a200_15, .int .i64 a200_16, .slice A200_17 l200_17.length c200_17, .slice A200_18 l200_18.length c200_18, .slice A200_19 l200_19.length c200_19, .slice A200_20 l200_20.length c200_20, .slice A200_21 l200_21.length c200_21, .slice A200_22 l200_22.length c200_22, .int .i64 a200_23, .bool a200_24, .int .i64 a200_25, .int .i64 a200_26, .int .i64 a200_27, .slice A200_28 l200_28.length c200_28, .int .i64 a200_29, .string a200_30, .string a200_31] 41 (0, 0))) (hbx201 : w.heap[g201_]? = some (.cells #[.bool a201] 4 (0, 0))) (hbx202 : w.heap[g202_]? = some (.cells #[.string a202_0, .string a202_1, .string a202_2, .int .i64 a202_3, .int .i64 a202_4, .int .i64 a202_5, .int .i64 a202_6, .bool a202_7, .int .i64 a202_8, .slice A202_9 l202_9.length c202_9, .slice A202_10 l202_10.length c202_10, .slice A202_11 l202_11.length c202_11, .slice A202_12 l202_12.length c202_12, .string a202_13, .int .i64 a202_14, .int .i64 a202_15, .int .i64 a202_16, .slice A202_17 l202_17.length c202_17, .slice A202_18 l202_18.length c202_18, .slice A202_19 l202_19.length c202_19, .slice A202_20 l202_20.length c202_20, .slice A202_21 l202_21.length c202_21, .slice A202_22 l202_22.length c202_22, .int .i64 a202_23, .bool a202_24, .int .i64 a202_25, .int .i64 a202_26, .int .i64 a202_27, .slice A202_28 l202_28.length c202_28, .int .i64 a202_29, .string a202_30, .string a202_31] 41 (0, 0))) (hbx203 : w.heap[g203_]? = some (.cells #[.int .i64 a203] 3 (0, 0))) (hbn200_201 : g200_ ≠ g201_) (hbn200_202 : g200_ ≠ g202_) (hbn200_203 : g200_ ≠ g203_) (hbn201_202 : g201_ ≠ g202_) (hbn201_203 : g201_ ≠ g203_) (hbn202_203 : g202_ ≠ g203_) (h : api_NetworkPolicy_26_c30.f k l0 a200_0 a200_1 a200_2 a200_3 a200_4 a200_5 a200_6 a200_7 a200_8 l200_9 l200_10 l200_11 l200_12 a200_13 a200_14 a200_15 a200_16 l200_17 l200_18 l200_19 l200_20 l200_21 l200_22 a200_23 a200_24 a200_25 a200_26 a200_27 l200_28 a200_29 a200_30 a200_31 a201 a202_0 a202_1 a202_2 a202_3 a202_4 a202_5 a202_6 a202_7 a202_8 l202_9 l202_10 l202_11 l202_12 a202_13 a202_14 a202_15 a202_16 l202_17 l202_18 l202_19 l202_20 l202_21 l202_22 a202_23 a202_24 a202_25 a202_26 a202_27 l202_28 a202_29 a202_30 a202_31 a203 = some r) :
  Calls Try.prog 26 #[.slice A0 l0.length c0, .func (.func 30) #[] #[.pointer (some ⟨g200_, 0, none⟩), .pointer (some ⟨g201_, 0, none⟩), .pointer (some ⟨g202_, 0, none⟩), .pointer (some ⟨g203_, 0, none⟩)]] w fun e w' => e = .returned (.int .i64 r) ∧ Below w.heap.size w w' := by
 have hu54 := Try.underlying54
 have HR0 := s_a hr0
 have HC0 := s_a hc0
 clear hr0 hc0
 have HR200_9 := s_a hr200_9
 have HC200_9 := s_a hc200_9
 clear hr200_9 hc200_9
 have HR200_10 := s_a hr200_10
 have HC200_10 := s_a hc200_10
 clear hr200_10 hc200_10
 have HR200_11 := s_a hr200_11
 have HC200_11 := s_a hc200_11
 clear hr200_11 hc200_11
 have HR200_12 := s_a hr200_12
 have HC200_12 := s_a hc200_12
 clear hr200_12 hc200_12
 have HR200_17 := s_a hr200_17
 have HC200_17 := s_a hc200_17
 clear hr200_17 hc200_17
 have HR200_18 := s_a hr200_18
 have HC200_18 := s_a hc200_18
 clear hr200_18 hc200_18
 have HR200_19 := s_a hr200_19
 have HC200_19 := s_a hc200_19
 clear hr200_19 hc200_19
 have HR200_20 := s_a hr200_20
 have HC200_20 := s_a hc200_20
 clear hr200_20 hc200_20
 have HR200_21 := s_a hr200_21
 have HC200_21 := s_a hc200_21
 clear hr200_21 hc200_21
 have HR200_22 := s_a hr200_22
 have HC200_22 := s_a hc200_22
 clear hr200_22 hc200_22
 have HR200_28 := s_a hr200_28
 have HC200_28 := s_a hc200_28
 clear hr200_28 hc200_28
 have HR202_9 := s_a hr202_9
 have HC202_9 := s_a hc202_9
 clear hr202_9 hc202_9
 have HR202_10 := s_a hr202_10
 have HC202_10 := s_a hc202_10
 clear hr202_10 hc202_10
 have HR202_11 := s_a hr202_11
 have HC202_11 := s_a hc202_11
 clear hr202_11 hc202_11
 have HR202_12 := s_a hr202_12
 have HC202_12 := s_a hc202_12
 clear hr202_12 hc202_12
 have HR202_17 := s_a hr202_17
 have HC202_17 := s_a hc202_17
 clear hr202_17 hc202_17
 have HR202_18 := s_a hr202_18
 have HC202_18 := s_a hc202_18
 clear hr202_18 hc202_18
 have HR202_19 := s_a hr202_19
 have HC202_19 := s_a hc202_19
 clear hr202_19 hc202_19
 have HR202_20 := s_a hr202_20
 have HC202_20 := s_a hc202_20
 clear hr202_20 hc202_20
 have HR202_21 := s_a hr202_21
 have HC202_21 := s_a hc202_21
 clear hr202_21 hc202_21
 have HR202_22 := s_a hr202_22
 have HC202_22 := s_a hc202_22
 clear hr202_22 hc202_22
 have HR202_28 := s_a hr202_28
 have HC202_28 := s_a hc202_28
 clear hr202_28 hc202_28
 have BK197 := s_a hbx200
 clear hbx200
 have BK198 := s_a hbx201
 clear hbx201
 have BK199 := s_a hbx202
 clear hbx202
 have BK200 := s_a hbx203
 clear hbx203
 have NB197_198 := s_a hbn200_201
 have NB198_197 := s_a (Ne.symm hbn200_201)
 clear hbn200_201
 have NB197_199 := s_a hbn200_202
 have NB199_197 := s_a (Ne.symm hbn200_202)
 clear hbn200_202
 have NB197_200 := s_a hbn200_203
 have NB200_197 := s_a (Ne.symm hbn200_203)
 clear hbn200_203
 have NB198_199 := s_a hbn201_202
 have NB199_198 := s_a (Ne.symm hbn201_202)
 clear hbn201_202
 have NB198_200 := s_a hbn201_203
 have NB200_198 := s_a (Ne.symm hbn201_203)
 clear hbn201_203
 have NB199_200 := s_a hbn202_203
 have NB200_199 := s_a (Ne.symm hbn202_203)
 clear hbn202_203
 have HB := s_a (Below.refl w.heap.size w)
 have H := h; unfold api_NetworkPolicy_26_c30.f at H
 clear h
 have H' := s_a H
 clear H
 go_enter Try.func26, Try.ntmps26
 go_wp2
 go_loopg [8] k (fun kq v8 w' => ∃ (x8_1 : Int), v8 = .int .i64 x8_1 ∧ Aside0 (api_NetworkPolicy_26_c30.l0 kq l0 (l0.length : Int) x8_1 a200_0 a200_1 a200_2 a200_3 a200_4 a200_5 a200_6 a200_7 a200_8 l200_9 l200_10 l200_11 l200_12 a200_13 a200_14 a200_15 a200_16 l200_17 l200_18 l200_19 l200_20 l200_21 l200_22 a200_23 a200_24 a200_25 a200_26 a200_27 l200_28 a200_29 a200_30 a200_31 a201 a202_0 a202_1 a202_2 a202_3 a202_4 a202_5 a202_6 a202_7 a202_8 l202_9 l202_10 l202_11 l202_12 a202_13 a202_14 a202_15 a202_16 l202_17 l202_18 l202_19 l202_20 l202_21 l202_22 a202_23 a202_24 a202_25 a202_26 a202_27 l202_28 a202_29 a202_30 a202_31 a203 = some r) ∧ Aside0 (kq ≤ k) ∧ Aside0 (w'.heap[g200_]? = some (.cells #[.string a200_0, .string a200_1, .string a200_2, .int .i64 a200_3, .int .i64 a200_4, .int .i64 a200_5, .int .i64 a200_6, .bool a200_7, .int .i64 a200_8, (.slice A200_9 l200_9.length c200_9), (.slice A200_10 l200_10.length c200_10), (.slice A200_11 l200_11.length c200_11), (.slice A200_12 l200_12.length c200_12), .string a200_13, .int .i64 a200_14, .int .i64 a200_15, .int .i64 a200_16, (.slice A200_17 l200_17.length c200_17), (.slice A200_18 l200_18.length c200_18), (.slice A200_19 l200_19.length c200_19), (.slice A200_20 l200_20.length c200_20), (.slice A200_21 l200_21.length c200_21), (.slice A200_22 l200_22.length c200_22), .int .i64 a200_23, .bool a200_24, .int .i64 a200_25, .int .i64 a200_26, .int .i64 a200_27, (.slice A200_28 l200_28.length c200_28), .int .i64 a200_29, .string a200_30, .string a200_31] 41 (0, 0))) ∧ Aside0 (w'.heap[g201_]? = some (.cells #[.bool a201] 4 (0, 0))) ∧ Aside0 (w'.heap[g202_]? = some (.cells #[.string a202_0, .string a202_1, .string a202_2, .int .i64 a202_3, .int .i64 a202_4, .int .i64 a202_5, .int .i64 a202_6, .bool a202_7, .int .i64 a202_8, (.slice A202_9 l202_9.length c202_9), (.slice A202_10 l202_10.length c202_10), (.slice A202_11 l202_11.length c202_11), (.slice A202_12 l202_12.length c202_12), .string a202_13, .int .i64 a202_14, .int .i64 a202_15, .int .i64 a202_16, (.slice A202_17 l202_17.length c202_17), (.slice A202_18 l202_18.length c202_18), (.slice A202_19 l202_19.length c202_19), (.slice A202_20 l202_20.length c202_20), (.slice A202_21 l202_21.length c202_21), (.slice A202_22 l202_22.length c202_22), .int .i64 a202_23, .bool a202_24, .int .i64 a202_25, .int .i64 a202_26, .int .i64 a202_27, (.slice A202_28 l202_28.length c202_28), .int .i64 a202_29, .string a202_30, .string a202_31] 41 (0, 0))) ∧ Aside0 (w'.heap[g203_]? = some (.cells #[.int .i64 a203] 3 (0, 0))) ∧ Aside0 (Below w.heap.size w w'))
 case atStart => exact ⟨(0), (by first | rfl | (simp; done) | (simp [*]; done)), H', ⟨Nat.le_refl _⟩, ⟨by exact s_k BK197.out⟩, ⟨by exact s_k BK198.out⟩, ⟨by exact s_k BK199.out⟩, ⟨by exact s_k BK200.out⟩, ⟨by exact s_b HB.out⟩⟩
 case round =>
  clear H'
  try clear c2
  try clear p2
  obtain ⟨x8_1, rfl, HA, HK1, BK197, BK198, BK199, BK200, HB⟩ := hrel
  cases gk with
  | zero => exact absurd HA.out (by simp [api_NetworkPolicy_26_c30.l0])
  | succ k1 =>
   have H := HA.out
   clear HA
   simp only [api_NetworkPolicy_26_c30.l0] at H
   by_cases c3 : x8_1 < (l0.length : Int)
   ·rw [if_pos c3] at H
    have c3b0 : decide (x8_1 < (l0.length : Int)) = true := decide_eq_true c3
    clear c3
    by_cases c4 : 0 ≤ x8_1
    ·rw [if_pos c4] at H
     have c4b0 : decide (0 ≤ x8_1) = true := decide_eq_true c4
     clear c4
     by_cases c5 : x8_1 < (l0.length : Int)
     ·rw [if_pos c5] at H
      have c5b0 : decide (x8_1 < (l0.length : Int)) = true := decide_eq_true c5
      clear c5
      replace H := Option.bind_eq_some_iff.mp H
      obtain ⟨t202, A60, H⟩ := H
      (try dsimp only at H)
      have A6 := s_a A60
      clear A60
      by_cases c7 : t202 = true
      ·subst c7
       (try rw [if_pos rfl] at H)
       obtain rfl := Option.some.inj H
       have p201 : 0 ≤ (x8_1 : Int) := of_decide_eq_true (by first | (with_reducible assumption) | assumption)
       have q201 : x8_1 < (l0.length : Int) := of_decide_eq_true (by first | (with_reducible assumption) | assumption)
       obtain ⟨ad201, A201_9, c201_9, A201_10, c201_10, A201_11, c201_11, A201_12, c201_12, A201_13, c201_13, A201_16, c201_16, e201, hx201_0, hx201_1, hx201_2, hx201_3, hx201_4, hx201_5, hx201_6, hx201_7, hx201_8, hx201_9, hx201_10, hx201_11, hx201_12, hx201_13, hx201_14, hx201_15, hx201_16, hl201_9, hi201_9, hl201_10, hi201_10, hl201_11, hi201_11, hl201_12, hi201_12, hl201_13, hi201_13, hl201_16, hi201_16⟩ := at_T54 HR0.out x8_1 p201 q201
       cases e201
       replace hx201_0 := s_m HB.out hx201_0
       replace hx201_1 := s_m HB.out hx201_1
       replace hx201_2 := s_m HB.out hx201_2
       replace hx201_3 := s_m HB.out hx201_3
       replace hx201_4 := s_m HB.out hx201_4
       replace hx201_5 := s_m HB.out hx201_5
       replace hx201_6 := s_m HB.out hx201_6
       replace hx201_7 := s_m HB.out hx201_7
       replace hx201_8 := s_m HB.out hx201_8
       replace hx201_9 := s_m HB.out hx201_9
       replace hx201_10 := s_m HB.out hx201_10
       replace hx201_11 := s_m HB.out hx201_11
       replace hx201_12 := s_m HB.out hx201_12
       replace hx201_13 := s_m HB.out hx201_13
       replace hx201_14 := s_m HB.out hx201_14
       replace hx201_15 := s_m HB.out hx201_15
       replace hx201_16 := s_m HB.out hx201_16
       have HR201_9 := s_a hi201_9
       have HC201_9 := s_a hl201_9
       clear hi201_9 hl201_9
       have HR201_10 := s_a hi201_10
       have HC201_10 := s_a hl201_10
       clear hi201_10 hl201_10
       have HR201_11 := s_a hi201_11
       have HC201_11 := s_a hl201_11
       clear hi201_11 hl201_11
       have HR201_12 := s_a hi201_12
       have HC201_12 := s_a hl201_12
       clear hi201_12 hl201_12
       have HR201_13 := s_a hi201_13
       have HC201_13 := s_a hl201_13
       clear hi201_13 hl201_13
       have HR201_16 := s_a hi201_16
       have HC201_16 := s_a hl201_16
       clear hi201_16 hl201_16
       replace p201 := eq_true p201
       replace q201 := eq_true q201
       go_wp2_with (first | ((with_reducible refine gate_dst (N := 15) rfl ?_); refine load_at rfl 54 (.tmp 14) rfl _ rfl _ _ (cells_at hx201_0 (s_cc hx201_1 (s_cc hx201_2 (s_cc hx201_3 (s_cc hx201_4 (s_cc hx201_5 (s_cc hx201_6 (s_cc hx201_7 (s_cc hx201_8 (s_cc hx201_9 (s_cc hx201_10 (s_cc hx201_11 (s_cc hx201_12 (s_cc hx201_13 (s_cc hx201_14 (s_cc hx201_15 (s_cc hx201_16 s_cn))))))))))))))))) Try.underlying54 rfl sz54 ?_) | (go_at_call 30; (with_reducible refine (netpolicy_open_1.calls k1 _ _ _ _ _ _ _ _ _ _ _ _ _ _ _ _ _ _ _ _ _ _ _ _ _ _ _ _ _ g200_ a200_0 a200_1 a200_2 a200_3 a200_4 a200_5 a200_6 a200_7 a200_8 A200_9 c200_9 l200_9 A200_10 c200_10 l200_10 A200_11 c200_11 l200_11 A200_12 c200_12 l200_12 a200_13 a200_14 a200_15 a200_16 A200_17 c200_17 l200_17 A200_18 c200_18 l200_18 A200_19 c200_19 l200_19 A200_20 c200_20 l200_20 A200_21 c200_21 l200_21 A200_22 c200_22 l200_22 a200_23 a200_24 a200_25 a200_26 a200_27 A200_28 c200_28 l200_28 a200_29 a200_30 a200_31 g201_ a201 g202_ a202_0 a202_1 a202_2 a202_3 a202_4 a202_5 a202_6 a202_7 a202_8 A202_9 c202_9 l202_9 A202_10 c202_10 l202_10 A202_11 c202_11 l202_11 A202_12 c202_12 l202_12 a202_13 a202_14 a202_15 a202_16 A202_17 c202_17 l202_17 A202_18 c202_18 l202_18 A202_19 c202_19 l202_19 A202_20 c202_20 l202_20 A202_21 c202_21 l202_21 A202_22 c202_22 l202_22 a202_23 a202_24 a202_25 a202_26 a202_27 A202_28 c202_28 l202_28 a202_29 a202_30 a202_31 g203_ a203 _ _ ?side1 ?side2 ?side3 ?side4 ?side5 ?side6 ?side7 ?side8 ?side9 ?side10 ?side11 ?side12 ?side13 ?side14 ?side15 ?side16 ?side17 ?side18 ?side19 ?side20 ?side21 ?side22 ?side23 ?side24 ?side25 ?side26 ?side27 ?side28 ?side29 ?side30 ?side31 ?side32 ?side33 ?side34 ?side35 ?side36 ?side37 ?side38 ?side39 ?side40 ?side41 ?side42 ?side43 ?side44 ?side45 ?side46 ?side47 ?side48 ?side49 ?side50 ?side51 ?side52 ?side53 ?side54 ?side55 ?side56 ?side57 ?side58 ?side59 ?side60 ?side61 ?side62 ?side63 ?side64 ?side65 ?side66 A6.out).mono ?_); (case side1 => exact s_D HR201_9.out HB.out); (case side2 => exact HC201_9.out); (case side3 => exact s_D HR201_10.out HB.out); (case side4 => exact HC201_10.out); (case side5 => exact s_D HR201_11.out HB.out); (case side6 => exact HC201_11.out); (case side7 => exact s_D HR201_12.out HB.out); (case side8 => exact HC201_12.out); (case side9 => exact s_D HR201_13.out HB.out); (case side10 => exact HC201_13.out); (case side11 => exact s_D HR201_16.out HB.out); (case side12 => exact HC201_16.out); (case side13 => exact s_D HR200_9.out HB.out); (case side14 => exact HC200_9.out); (case side15 => exact s_D HR200_10.out HB.out); (case side16 => exact HC200_10.out); (case side17 => exact s_D HR200_11.out HB.out); (case side18 => exact HC200_11.out); (case side19 => exact s_D HR200_12.out HB.out); (case side20 => exact HC200_12.out); (case side21 => exact s_D HR200_17.out HB.out); (case side22 => exact HC200_17.out); (case side23 => exact s_D HR200_18.out HB.out); (case side24 => exact HC200_18.out); (case side25 => exact s_D HR200_19.out HB.out); (case side26 => exact HC200_19.out); (case side27 => exact s_D HR200_20.out HB.out); (case side28 => exact HC200_20.out); (case side29 => exact s_D HR200_21.out HB.out); (case side30 => exact HC200_21.out); (case side31 => exact s_D HR200_22.out HB.out); (case side32 => exact HC200_22.out); (case side33 => exact s_D HR200_28.out HB.out); (case side34 => exact HC200_28.out); (case side35 => exact s_D HR202_9.out HB.out); (case side36 => exact HC202_9.out); (case side37 => exact s_D HR202_10.out HB.out); (case side38 => exact HC202_10.out); (case side39 => exact s_D HR202_11.out HB.out); (case side40 => exact HC202_11.out); (case side41 => exact s_D HR202_12.out HB.out); (case side42 => exact HC202_12.out); (case side43 => exact s_D HR202_17.out HB.out); (case side44 => exact HC202_17.out); (case side45 => exact s_D HR202_18.out HB.out); (case side46 => exact HC202_18.out); (case side47 => exact s_D HR202_19.out HB.out); (case side48 => exact HC202_19.out); (case side49 => exact s_D HR202_20.out HB.out); (case side50 => exact HC202_20.out); (case side51 => exact s_D HR202_21.out HB.out); (case side52 => exact HC202_21.out); (case side53 => exact s_D HR202_22.out HB.out); (case side54 => exact HC202_22.out); (case side55 => exact s_D HR202_28.out HB.out); (case side56 => exact HC202_28.out); (case side57 => exact (by exact s_k BK197.out)); (case side58 => exact (by exact s_k BK198.out)); (case side59 => exact (by exact s_k BK199.out)); (case side60 => exact (by exact s_k BK200.out)); (case side61 => exact NB197_198.out); (case side62 => exact NB197_199.out); (case side63 => exact NB197_200.out); (case side64 => exact NB198_199.out); (case side65 => exact NB198_200.out); (case side66 => exact NB199_200.out); rintro e w8 ⟨rfl, hb⟩; (try clear A6); replace BK197 := s_a (blk_below (s_k BK197.out) hb); replace BK198 := s_a (blk_below (s_k BK198.out) hb); replace BK199 := s_a (blk_below (s_k BK199.out) hb); replace BK200 := s_a (blk_below (s_k BK200.out) hb); replace HB := s_a (below_step (by exact s_b HB.out) hb); (try clear hb)))
       go_ret
       exact ⟨by first | rfl | (simp [errW_none, errW_some] <;> rfl) | (simp [*, errW_none, errW_some] <;> rfl), by exact s_b HB.out⟩
      ·replace c7 := Bool.eq_false_iff.mpr c7
       subst c7
       (try rw [if_neg (show ¬ (false = true) by decide)] at H)
       have H' := s_a H
       clear H
       have p201 : 0 ≤ (x8_1 : Int) := of_decide_eq_true (by first | (with_reducible assumption) | assumption)
       have q201 : x8_1 < (l0.length : Int) := of_decide_eq_true (by first | (with_reducible assumption) | assumption)
       obtain ⟨ad201, A201_9, c201_9, A201_10, c201_10, A201_11, c201_11, A201_12, c201_12, A201_13, c201_13, A201_16, c201_16, e201, hx201_0, hx201_1, hx201_2, hx201_3, hx201_4, hx201_5, hx201_6, hx201_7, hx201_8, hx201_9, hx201_10, hx201_11, hx201_12, hx201_13, hx201_14, hx201_15, hx201_16, hl201_9, hi201_9, hl201_10, hi201_10, hl201_11, hi201_11, hl201_12, hi201_12, hl201_13, hi201_13, hl201_16, hi201_16⟩ := at_T54 HR0.out x8_1 p201 q201
       cases e201
       replace hx201_0 := s_m HB.out hx201_0
       replace hx201_1 := s_m HB.out hx201_1
       replace hx201_2 := s_m HB.out hx201_2
       replace hx201_3 := s_m HB.out hx201_3
       replace hx201_4 := s_m HB.out hx201_4
       replace hx201_5 := s_m HB.out hx201_5
       replace hx201_6 := s_m HB.out hx201_6
       replace hx201_7 := s_m HB.out hx201_7
       replace hx201_8 := s_m HB.out hx201_8
       replace hx201_9 := s_m HB.out hx201_9
       replace hx201_10 := s_m HB.out hx201_10
       replace hx201_11 := s_m HB.out hx201_11
       replace hx201_12 := s_m HB.out hx201_12
       replace hx201_13 := s_m HB.out hx201_13
       replace hx201_14 := s_m HB.out hx201_14
       replace hx201_15 := s_m HB.out hx201_15
       replace hx201_16 := s_m HB.out hx201_16
       have HR201_9 := s_a hi201_9
       have HC201_9 := s_a hl201_9
       clear hi201_9 hl201_9
       have HR201_10 := s_a hi201_10
       have HC201_10 := s_a hl201_10
       clear hi201_10 hl201_10
       have HR201_11 := s_a hi201_11
       have HC201_11 := s_a hl201_11
       clear hi201_11 hl201_11
       have HR201_12 := s_a hi201_12
       have HC201_12 := s_a hl201_12
       clear hi201_12 hl201_12
       have HR201_13 := s_a hi201_13
       have HC201_13 := s_a hl201_13
       clear hi201_13 hl201_13
       have HR201_16 := s_a hi201_16
       have HC201_16 := s_a hl201_16
       clear hi201_16 hl201_16
       replace p201 := eq_true p201
       replace q201 := eq_true q201
       go_wp2_with (first | ((with_reducible refine gate_dst (N := 15) rfl ?_); refine load_at rfl 54 (.tmp 14) rfl _ rfl _ _ (cells_at hx201_0 (s_cc hx201_1 (s_cc hx201_2 (s_cc hx201_3 (s_cc hx201_4 (s_cc hx201_5 (s_cc hx201_6 (s_cc hx201_7 (s_cc hx201_8 (s_cc hx201_9 (s_cc hx201_10 (s_cc hx201_11 (s_cc hx201_12 (s_cc hx201_13 (s_cc hx201_14 (s_cc hx201_15 (s_cc hx201_16 s_cn))))))))))))))))) Try.underlying54 rfl sz54 ?_) | (go_at_call 30; (with_reducible refine (netpolicy_open_1.calls k1 _ _ _ _ _ _ _ _ _ _ _ _ _ _ _ _ _ _ _ _ _ _ _ _ _ _ _ _ _ g200_ a200_0 a200_1 a200_2 a200_3 a200_4 a200_5 a200_6 a200_7 a200_8 A200_9 c200_9 l200_9 A200_10 c200_10 l200_10 A200_11 c200_11 l200_11 A200_12 c200_12 l200_12 a200_13 a200_14 a200_15 a200_16 A200_17 c200_17 l200_17 A200_18 c200_18 l200_18 A200_19 c200_19 l200_19 A200_20 c200_20 l200_20 A200_21 c200_21 l200_21 A200_22 c200_22 l200_22 a200_23 a200_24 a200_25 a200_26 a200_27 A200_28 c200_28 l200_28 a200_29 a200_30 a200_31 g201_ a201 g202_ a202_0 a202_1 a202_2 a202_3 a202_4 a202_5 a202_6 a202_7 a202_8 A202_9 c202_9 l202_9 A202_10 c202_10 l202_10 A202_11 c202_11 l202_11 A202_12 c202_12 l202_12 a202_13 a202_14 a202_15 a202_16 A202_17 c202_17 l202_17 A202_18 c202_18 l202_18 A202_19 c202_19 l202_19 A202_20 c202_20 l202_20 A202_21 c202_21 l202_21 A202_22 c202_22 l202_22 a202_23 a202_24 a202_25 a202_26 a202_27 A202_28 c202_28 l202_28 a202_29 a202_30 a202_31 g203_ a203 _ _ ?side1 ?side2 ?side3 ?side4 ?side5 ?side6 ?side7 ?side8 ?side9 ?side10 ?side11 ?side12 ?side13 ?side14 ?side15 ?side16 ?side17 ?side18 ?side19 ?side20 ?side21 ?side22 ?side23 ?side24 ?side25 ?side26 ?side27 ?side28 ?side29 ?side30 ?side31 ?side32 ?side33 ?side34 ?side35 ?side36 ?side37 ?side38 ?side39 ?side40 ?side41 ?side42 ?side43 ?side44 ?side45 ?side46 ?side47 ?side48 ?side49 ?side50 ?side51 ?side52 ?side53 ?side54 ?side55 ?side56 ?side57 ?side58 ?side59 ?side60 ?side61 ?side62 ?side63 ?side64 ?side65 ?side66 A6.out).mono ?_); (case side1 => exact s_D HR201_9.out HB.out); (case side2 => exact HC201_9.out); (case side3 => exact s_D HR201_10.out HB.out); (case side4 => exact HC201_10.out); (case side5 => exact s_D HR201_11.out HB.out); (case side6 => exact HC201_11.out); (case side7 => exact s_D HR201_12.out HB.out); (case side8 => exact HC201_12.out); (case side9 => exact s_D HR201_13.out HB.out); (case side10 => exact HC201_13.out); (case side11 => exact s_D HR201_16.out HB.out); (case side12 => exact HC201_16.out); (case side13 => exact s_D HR200_9.out HB.out); (case side14 => exact HC200_9.out); (case side15 => exact s_D HR200_10.out HB.out); (case side16 => exact HC200_10.out); (case side17 => exact s_D HR200_11.out HB.out); (case side18 => exact HC200_11.out); (case side19 => exact s_D HR200_12.out HB.out); (case side20 => exact HC200_12.out); (case side21 => exact s_D HR200_17.out HB.out); (case side22 => exact HC200_17.out); (case side23 => exact s_D HR200_18.out HB.out); (case side24 => exact HC200_18.out); (case side25 => exact s_D HR200_19.out HB.out); (case side26 => exact HC200_19.out); (case side27 => exact s_D HR200_20.out HB.out); (case side28 => exact HC200_20.out); (case side29 => exact s_D HR200_21.out HB.out); (case side30 => exact HC200_21.out); (case side31 => exact s_D HR200_22.out HB.out); (case side32 => exact HC200_22.out); (case side33 => exact s_D HR200_28.out HB.out); (case side34 => exact HC200_28.out); (case side35 => exact s_D HR202_9.out HB.out); (case side36 => exact HC202_9.out); (case side37 => exact s_D HR202_10.out HB.out); (case side38 => exact HC202_10.out); (case side39 => exact s_D HR202_11.out HB.out); (case side40 => exact HC202_11.out); (case side41 => exact s_D HR202_12.out HB.out); (case side42 => exact HC202_12.out); (case side43 => exact s_D HR202_17.out HB.out); (case side44 => exact HC202_17.out); (case side45 => exact s_D HR202_18.out HB.out); (case side46 => exact HC202_18.out); (case side47 => exact s_D HR202_19.out HB.out); (case side48 => exact HC202_19.out); (case side49 => exact s_D HR202_20.out HB.out); (case side50 => exact HC202_20.out); (case side51 => exact s_D HR202_21.out HB.out); (case side52 => exact HC202_21.out); (case side53 => exact s_D HR202_22.out HB.out); (case side54 => exact HC202_22.out); (case side55 => exact s_D HR202_28.out HB.out); (case side56 => exact HC202_28.out); (case side57 => exact (by exact s_k BK197.out)); (case side58 => exact (by exact s_k BK198.out)); (case side59 => exact (by exact s_k BK199.out)); (case side60 => exact (by exact s_k BK200.out)); (case side61 => exact NB197_198.out); (case side62 => exact NB197_199.out); (case side63 => exact NB197_200.out); (case side64 => exact NB198_199.out); (case side65 => exact NB198_200.out); (case side66 => exact NB199_200.out); rintro e w9 ⟨rfl, hb⟩; (try clear A6); replace BK197 := s_a (blk_below (s_k BK197.out) hb); replace BK198 := s_a (blk_below (s_k BK198.out) hb); replace BK199 := s_a (blk_below (s_k BK199.out) hb); replace BK200 := s_a (blk_below (s_k BK200.out) hb); replace HB := s_a (below_step (by exact s_b HB.out) hb); (try clear hb)))
       go_roundg k1
       case measure => have := HK1.out; omega
       case rel => exact ⟨(wrap64 (x8_1 + 1)), (by first | rfl | (simp; done) | (simp [*]; done)), H', ⟨by have := HK1.out; omega⟩, ⟨by exact s_k BK197.out⟩, ⟨by exact s_k BK198.out⟩, ⟨by exact s_k BK199.out⟩, ⟨by exact s_k BK200.out⟩, ⟨by exact s_b HB.out⟩⟩
     ·rw [if_neg c5] at H
      exact absurd H (by simp)
    ·rw [if_neg c4] at H
     exact absurd H (by simp)
   ·rw [if_neg c3] at H
    have c3b0 : decide (x8_1 < (l0.length : Int)) = false := decide_eq_false c3
    clear c3
    obtain rfl := Option.some.inj H
    go_wp2
    go_ret
    exact ⟨by first | rfl | (simp [errW_none, errW_some] <;> rfl) | (simp [*, errW_none, errW_some] <;> rfl), by exact s_b HB.out⟩
def api_NetworkPolicy_18_c30.f (k : Nat) (l0 : List (S54)) (a200_0 : ByteArray) (a200_1 : ByteArray) (a200_2 : ByteArray) (a200_3 : Int) (a200_4 : Int) (a200_5 : Int) (a200_6 : Int) (a200_7 : Bool) (a200_8 : Int) (l200_9 : List (S72)) (l200_10 : List (S110)) (l200_11 : List ByteArray) (l200_12 : List (S112)) (a200_13 : ByteArray) (a200_14 : Int) (a200_15 : Int) (a200_16 : Int) (l200_17 : List (S117)) (l200_18 : List (S74)) (l200_19 : List (S119)) (l200_20 : List (S121)) (l200_21 : List (S123)) (l200_22 : List (S125)) (a200_23 : Int) (a200_24 : Bool) (a200_25 : Int) (a200_26 : Int) (a200_27 : Int) (l200_28 : List (S127)) (a200_29 : Int) (a200_30 : ByteArray) (a200_31 : ByteArray) (a201 : Bool) (a202_0 : ByteArray) (a202_1 : ByteArray) (a202_2 : ByteArray) (a202_3 : Int) (a202_4 : Int) (a202_5 : Int) (a202_6 : Int) (a202_7 : Bool) (a202_8 : Int) (l202_9 : List (S72)) (l202_10 : List (S110)) (l202_11 : List ByteArray) (l202_12 : List (S112)) (a202_13 : ByteArray) (a202_14 : Int) (a202_15 : Int) (a202_16 : Int) (l202_17 : List (S117)) (l202_18 : List (S74)) (l202_19 : List (S119)) (l202_20 : List (S121)) (l202_21 : List (S123)) (l202_22 : List (S125)) (a202_23 : Int) (a202_24 : Bool) (a202_25 : Int) (a202_26 : Int) (a202_27 : Int) (l202_28 : List (S127)) (a202_29 : Int) (a202_30 : ByteArray) (a202_31 : ByteArray) (a203 : Int) : Option (Bool) := (api_NetworkPolicy_26_c30.f k l0 a200_0 a200_1 a200_2 a200_3 a200_4 a200_5 a200_6 a200_7 a200_8 l200_9 l200_10 l200_11 l200_12 a200_13 a200_14 a200_15 a200_16 l200_17 l200_18 l200_19 l200_20 l200_21 l200_22 a200_23 a200_24 a200_25 a200_26 a200_27 l200_28 a200_29 a200_30 a200_31 a201 a202_0 a202_1 a202_2 a202_3 a202_4 a202_5 a202_6 a202_7 a202_8 l202_9 l202_10 l202_11 l202_12 a202_13 a202_14 a202_15 a202_16 l202_17 l202_18 l202_19 l202_20 l202_21 l202_22 a202_23 a202_24 a202_25 a202_26 a202_27 l202_28 a202_29 a202_30 a202_31 a203).bind fun t207 => (some (decide (t207 ≥ 0)))
theorem api_NetworkPolicy_18_c30.mono : ∀ a0 a1 a2 a3 a4 a5 a6 a7 a8 a9 a10 a11 a12 a13 a14 a15 a16 a17 a18 a19 a20 a21 a22 a23 a24 a25 a26 a27 a28 a29 a30 a31 a32 a33 a34 a35 a36 a37 a38 a39 a40 a41 a42 a43 a44 a45 a46 a47 a48 a49 a50 a51 a52 a53 a54 a55 a56 a57 a58 a59 a60 a61 a62 a63 a64 a65 a66 k, LeO (api_NetworkPolicy_18_c30.f k a0 a1 a2 a3 a4 a5 a6 a7 a8 a9 a10 a11 a12 a13 a14 a15 a16 a17 a18 a19 a20 a21 a22 a23 a24 a25 a26 a27 a28 a29 a30 a31 a32 a33 a34 a35 a36 a37 a38 a39 a40 a41 a42 a43 a44 a45 a46 a47 a48 a49 a50 a51 a52 a53 a54 a55 a56 a57 a58 a59 a60 a61 a62 a63 a64 a65 a66) (api_NetworkPolicy_18_c30.f (k + 1) a0 a1 a2 a3 a4 a5 a6 a7 a8 a9 a10 a11 a12 a13 a14 a15 a16 a17 a18 a19 a20 a21 a22 a23 a24 a25 a26 a27 a28 a29 a30 a31 a32 a33 a34 a35 a36 a37 a38 a39 a40 a41 a42 a43 a44 a45 a46 a47 a48 a49 a50 a51 a52 a53 a54 a55 a56 a57 a58 a59 a60 a61 a62 a63 a64 a65 a66) := by
 intro a0 a1 a2 a3 a4 a5 a6 a7 a8 a9 a10 a11 a12 a13 a14 a15 a16 a17 a18 a19 a20 a21 a22 a23 a24 a25 a26 a27 a28 a29 a30 a31 a32 a33 a34 a35 a36 a37 a38 a39 a40 a41 a42 a43 a44 a45 a46 a47 a48 a49 a50 a51 a52 a53 a54 a55 a56 a57 a58 a59 a60 a61 a62 a63 a64 a65 a66 k
 unfold api_NetworkPolicy_18_c30.f
 repeat' first
   | (with_reducible exact api_NetworkPolicy_26_c30.mono _ _ _ _ _ _ _ _ _ _ _ _ _ _ _ _ _ _ _ _ _ _ _ _ _ _ _ _ _ _ _ _ _ _ _ _ _ _ _ _ _ _ _ _ _ _ _ _ _ _ _ _ _ _ _ _ _ _ _ _ _ _ _ _ _ _ _ _)
   | (with_reducible exact LeO.refl _)
   | (with_reducible exact LeO.none _)
   | (with_reducible refine LeO.ite ?_ ?_)
   | (with_reducible refine LeO.bind ?_ (fun _ => ?_))
   | exact api_NetworkPolicy_26_c30.mono _ _ _ _ _ _ _ _ _ _ _ _ _ _ _ _ _ _ _ _ _ _ _ _ _ _ _ _ _ _ _ _ _ _ _ _ _ _ _ _ _ _ _ _ _ _ _ _ _ _ _ _ _ _ _ _ _ _ _ _ _ _ _ _ _ _ _ _
   | exact LeO.none _
   | refine LeO.ite ?_ ?_
   | refine LeO.bind ?_ (fun _ => ?_)
set_option maxHeartbeats 8000000 in
set_option maxRecDepth 100000 in
theorem api_NetworkPolicy_18_c30.calls (k : Nat) (A0 : Option Addr) (c0 : Nat) (l0 : List (S54)) (g200_ : Nat) (g201_ : Nat) (g202_ : Nat) (g203_ : Nat) (a200_0 : ByteArray) (a200_1 : ByteArray) (a200_2 : ByteArray) (a200_3 : Int) (a200_4 : Int) (a200_5 : Int) (a200_6 : Int) (a200_7 : Bool) (a200_8 : Int) (A200_9 : Option Addr) (c200_9 : Nat) (l200_9 : List (S72)) (A200_10 : Option Addr) (c200_10 : Nat) (l200_10 : List (S110)) (A200_11 : Option Addr) (c200_11 : Nat) (l200_11 : List ByteArray) (A200_12 : Option Addr) (c200_12 : Nat) (l200_12 : List (S112)) (a200_13 : ByteArray) (a200_14 : Int) (a200_15 : Int) (a200_16 : Int) (A200_17 : Option Addr) (c200_17 : Nat) (l200_17 : List (S117)) (A200_18 : Option Addr) (c200_18 : Nat) (l200_18 : List (S74)) (A200_19 : Option Addr) (c200_19 : Nat) (l200_19 : List (S119)) (A200_20 : Option Addr) (c200_20 : Nat) (l200_20 : List (S121)) (A200_21 : Option Addr) (c200_21 : Nat) (l200_21 : List (S123)) (A200_22 : Option Addr) (c200_22 : Nat) (l200_22 : List (S125)) (a200_23 : Int) (a200_24 : Bool) (a200_25 : Int) (a200_26 : Int) (a200_27 : Int) (A200_28 : Option Addr) (c200_28 : Nat) (l200_28 : List (S127)) (a200_29 : Int) (a200_30 : ByteArray) (a200_31 : ByteArray) (a201 : Bool) (a202_0 : ByteArray) (a202_1 : ByteArray) (a202_2 : ByteArray) (a202_3 : Int) (a202_4 : Int) (a202_5 : Int) (a202_6 : Int) (a202_7 : Bool) (a202_8 : Int) (A202_9 : Option Addr) (c202_9 : Nat) (l202_9 : List (S72)) (A202_10 : Option Addr) (c202_10 : Nat) (l202_10 : List (S110)) (A202_11 : Option Addr) (c202_11 : Nat) (l202_11 : List ByteArray) (A202_12 : Option Addr) (c202_12 : Nat) (l202_12 : List (S112)) (a202_13 : ByteArray) (a202_14 : Int) (a202_15 : Int) (a202_16 : Int) (A202_17 : Option Addr) (c202_17 : Nat) (l202_17 : List (S117)) (A202_18 : Option Addr) (c202_18 : Nat) (l202_18 : List (S74)) (A202_19 : Option Addr) (c202_19 : Nat) (l202_19 : List (S119)) (A202_20 : Option Addr) (c202_20 : Nat) (l202_20 : List (S121)) (A202_21 : Option Addr) (c202_21 : Nat) (l202_21 : List (S123)) (A202_22 : Option Addr) (c202_22 : Nat) (l202_22 : List (S125)) (a202_23 : Int) (a202_24 : Bool) (a202_25 : Int) (a202_26 : Int) (a202_27 : Int) (A202_28 : Option Addr) (c202_28 : Nat) (l202_28 : List (S127)) (a202_29 : Int) (a202_30 : ByteArray) (a202_31 : ByteArray) (a203 : Int) (r : Bool) (w : World) (hr0 : Kd.C k54 w A0 l0.length l0) (hc0 : l0.length ≤ c0) (hr200_9 : Kd.C k72 w A200_9 l200_9.length l200_9) (hc200_9 : l200_9.length ≤ c200_9) (hr200_10 : Kd.C k110 w A200_10 l200_10.length l200_10) (hc200_10 : l200_10.length ≤ c200_10) (hr200_11 : Kd.C Kd.string w A200_11 l200_11.length l200_11) (hc200_11 : l200_11.length ≤ c200_11) (hr200_12 : Kd.C k112 w A200_12 l200_12.length l200_12) (hc200_12 : l200_12.length ≤ c200_12) (hr200_17 : Kd.C k117 w A200_17 l200_17.length l200_17) (hc200_17 : l200_17.length ≤ c200_17) (hr200_18 : Kd.C k74 w A200_18 l200_18.length l200_18) (hc200_18 : l200_18.length ≤ c200_18) (hr200_19 : Kd.C k119 w A200_19 l200_19.length l200_19) (hc200_19 : l200_19.length ≤ c200_19) (hr200_20 : Kd.C k121 w A200_20 l200_20.length l200_20) (hc200_20 : l200_20.length ≤ c200_20) (hr200_21 : Kd.C k123 w A200_21 l200_21.length l200_21) (hc200_21 : l200_21.length ≤ c200_21) (hr200_22 : Kd.C k125 w A200_22 l200_22.length l200_22) (hc200_22 : l200_22.length ≤ c200_22) (hr200_28 : Kd.C k127 w A200_28 l200_28.length l200_28) (hc200_28 : l200_28.length ≤ c200_28) (hr202_9 : Kd.C k72 w A202_9 l202_9.length l202_9) (hc202_9 : l202_9.length ≤ c202_9) (hr202_10 : Kd.C k110 w A202_10 l202_10.length l202_10) (hc202_10 : l202_10.length ≤ c202_10) (hr202_11 : Kd.C Kd.string w A202_11 l202_11.length l202_11) (hc202_11 : l202_11.length ≤ c202_11) (hr202_12 : Kd.C k112 w A202_12 l202_12.length l202_12) (hc202_12 : l202_12.length ≤ c202_12) (hr202_17 : Kd.C k117 w A202_17 l202_17.length l202_17) (hc202_17 : l202_17.length ≤ c202_17) (hr202_18 : Kd.C k74 w A202_18 l202_18.length l202_18) (hc202_18 : l202_18.length ≤ c202_18) (hr202_19 : Kd.C k119 w A202_19 l202_19.length l202_19) (hc202_19 : l202_19.length ≤ c202_19) (hr202_20 : Kd.C k121 w A202_20 l202_20.length l202_20) (hc202_20 : l202_20.length ≤ c202_20) (hr202_21 : Kd.C k123 w A202_21 l202_21.length l202_21) (hc202_21 : l202_21.length ≤ c202_21) (hr202_22 : Kd.C k125 w A202_22 l202_22.length l202_22) (hc202_22 : l202_22.length ≤ c202_22) (hr202_28 : Kd.C k127 w A202_28 l202_28.length l202_28) (hc202_28 : l202_28.length ≤ c202_28) (hbx200 : w.heap[g200_]? = some (.cells #[.string a200_0, .string a200_1, .string a200_2, .int .i64 a200_3, .int .i64 a200_4, .int .i64 a200_5, .int .i64 a200_6, .bool a200_7, .int .i64 a200_8, .slice A200_9 l200_9.length c200_9, .slice A200_10 l200_10.length c200_10, .slice A200_11 l200_11.length c200_11, .slice A200_12 l200_12.length c200_12, .string a200_13, .int .i64 a200_14, .int .i64 a200_15, .int .i64 a200_16, .slice A200_17 l200_17.length c200_17, .slice A200_18 l200_18.length c200_18, .slice A200_19 l200_19.length c200_19, .slice A200_20 l200_20.length c200_20, .slice A200_21 l200_21.length c200_21, .slice A200_22 l200_22.length c200_22, .int .i64 a200_23, .bool a200_24, .int .i64 a200_25, .int .i64 a200_26, .int .i64 a200_27, .slice A200_28 l200_28.length c200_28, .int .i64 a200_29, .string a200_30, .string a200_31] 41 (0, 0))) (hbx201 : w.heap[g201_]? = some (.cells #[.bool a201] 4 (0, 0))) (hbx202 : w.heap[g202_]? = some (.cells #[.string a202_0, .string a202_1, .string a202_2, .int .i64 a202_3, .int .i64 a202_4, .int .i64 a202_5, .int .i64 a202_6, .bool a202_7, .int .i64 a202_8, .slice A202_9 l202_9.length c202_9, .slice A202_10 l202_10.length c202_10, .slice A202_11 l202_11.length c202_11, .slice A202_12 l202_12.length c202_12, .string a202_13, .int .i64 a202_14, .int .i64 a202_15, .int .i64 a202_16, .slice A202_17 l202_17.length c202_17, .slice A202_18 l202_18.length c202_18, .slice A202_19 l202_19.length c202_19, .slice A202_20 l202_20.length c202_20, .slice A202_21 l202_21.length c202_21, .slice A202_22 l202_22.length c202_22, .int .i64 a202_23, .bool a202_24, .int .i64 a202_25, .int .i64 a202_26, .int .i64 a202_27, .slice A202_28 l202_28.length c202_28, .int .i64 a202_29, .string a202_30, .string a202_31] 41 (0, 0))) (hbx203 : w.heap[g203_]? = some (.cells #[.int .i64 a203] 3 (0, 0))) (hbn200_201 : g200_ ≠ g201_) (hbn200_202 : g200_ ≠ g202_) (hbn200_203 : g200_ ≠ g203_) (hbn201_202 : g201_ ≠ g202_) (hbn201_203 : g201_ ≠ g203_) (hbn202_203 : g202_ ≠ g203_) (h : api_NetworkPolicy_18_c30.f k l0 a200_0 a200_1 a200_2 a200_3 a200_4 a200_5 a200_6 a200_7 a200_8 l200_9 l200_10 l200_11 l200_12 a200_13 a200_14 a200_15 a200_16 l200_17 l200_18 l200_19 l200_20 l200_21 l200_22 a200_23 a200_24 a200_25 a200_26 a200_27 l200_28 a200_29 a200_30 a200_31 a201 a202_0 a202_1 a202_2 a202_3 a202_4 a202_5 a202_6 a202_7 a202_8 l202_9 l202_10 l202_11 l202_12 a202_13 a202_14 a202_15 a202_16 l202_17 l202_18 l202_19 l202_20 l202_21 l202_22 a202_23 a202_24 a202_25 a202_26 a202_27 l202_28 a202_29 a202_30 a202_31 a203 = some r) :
  Calls Try.prog 18 #[.slice A0 l0.length c0, .func (.func 30) #[] #[.pointer (some ⟨g200_, 0, none⟩), .pointer (some ⟨g201_, 0, none⟩), .pointer (some ⟨g202_, 0, none⟩), .pointer (some ⟨g203_, 0, none⟩)]] w fun e w' => e = .returned (.bool r) ∧ Below w.heap.size w w' := by
 have HR0 := s_a hr0
 have HC0 := s_a hc0
 clear hr0 hc0
 have HR200_9 := s_a hr200_9
 have HC200_9 := s_a hc200_9
 clear hr200_9 hc200_9
 have HR200_10 := s_a hr200_10
 have HC200_10 := s_a hc200_10
 clear hr200_10 hc200_10
 have HR200_11 := s_a hr200_11
 have HC200_11 := s_a hc200_11
 clear hr200_11 hc200_11
 have HR200_12 := s_a hr200_12
 have HC200_12 := s_a hc200_12
 clear hr200_12 hc200_12
 have HR200_17 := s_a hr200_17
 have HC200_17 := s_a hc200_17
 clear hr200_17 hc200_17
 have HR200_18 := s_a hr200_18
 have HC200_18 := s_a hc200_18
 clear hr200_18 hc200_18
 have HR200_19 := s_a hr200_19
 have HC200_19 := s_a hc200_19
 clear hr200_19 hc200_19
 have HR200_20 := s_a hr200_20
 have HC200_20 := s_a hc200_20
 clear hr200_20 hc200_20
 have HR200_21 := s_a hr200_21
 have HC200_21 := s_a hc200_21
 clear hr200_21 hc200_21
 have HR200_22 := s_a hr200_22
 have HC200_22 := s_a hc200_22
 clear hr200_22 hc200_22
 have HR200_28 := s_a hr200_28
 have HC200_28 := s_a hc200_28
 clear hr200_28 hc200_28
 have HR202_9 := s_a hr202_9
 have HC202_9 := s_a hc202_9
 clear hr202_9 hc202_9
 have HR202_10 := s_a hr202_10
 have HC202_10 := s_a hc202_10
 clear hr202_10 hc202_10
 have HR202_11 := s_a hr202_11
 have HC202_11 := s_a hc202_11
 clear hr202_11 hc202_11
 have HR202_12 := s_a hr202_12
 have HC202_12 := s_a hc202_12
 clear hr202_12 hc202_12
 have HR202_17 := s_a hr202_17
 have HC202_17 := s_a hc202_17
 clear hr202_17 hc202_17
 have HR202_18 := s_a hr202_18
 have HC202_18 := s_a hc202_18
 clear hr202_18 hc202_18
 have HR202_19 := s_a hr202_19
 have HC202_19 := s_a hc202_19
 clear hr202_19 hc202_19
 have HR202_20 := s_a hr202_20
 have HC202_20 := s_a hc202_20
 clear hr202_20 hc202_20
 have HR202_21 := s_a hr202_21
 have HC202_21 := s_a hc202_21
 clear hr202_21 hc202_21
 have HR202_22 := s_a hr202_22
 have HC202_22 := s_a hc202_22
 clear hr202_22 hc202_22
 have HR202_28 := s_a hr202_28
 have HC202_28 := s_a hc202_28
 clear hr202_28 hc202_28
 have BK203 := s_a hbx200
 clear hbx200
 have BK204 := s_a hbx201
 clear hbx201
 have BK205 := s_a hbx202
 clear hbx202
 have BK206 := s_a hbx203
 clear hbx203
 have NB203_204 := s_a hbn200_201
 have NB204_203 := s_a (Ne.symm hbn200_201)
 clear hbn200_201
 have NB203_205 := s_a hbn200_202
 have NB205_203 := s_a (Ne.symm hbn200_202)
 clear hbn200_202
 have NB203_206 := s_a hbn200_203
 have NB206_203 := s_a (Ne.symm hbn200_203)
 clear hbn200_203
 have NB204_205 := s_a hbn201_202
 have NB205_204 := s_a (Ne.symm hbn201_202)
 clear hbn201_202
 have NB204_206 := s_a hbn201_203
 have NB206_204 := s_a (Ne.symm hbn201_203)
 clear hbn201_203
 have NB205_206 := s_a hbn202_203
 have NB206_205 := s_a (Ne.symm hbn202_203)
 clear hbn202_203
 have HB := s_a (Below.refl w.heap.size w)
 have H := h; unfold api_NetworkPolicy_18_c30.f at H
 clear h
 replace H := Option.bind_eq_some_iff.mp H
 obtain ⟨t207, A30, H⟩ := H
 replace H : (some (decide (t207 ≥ 0))) = some r := H
 have A3 := s_a A30
 clear A30
 obtain rfl := Option.some.inj H
 go_enter Try.func18, Try.ntmps18
 go_wp2_with (first | (go_at_call 26; (with_reducible refine (api_NetworkPolicy_26_c30.calls k _ _ _ g200_ g201_ g202_ g203_ a200_0 a200_1 a200_2 a200_3 a200_4 a200_5 a200_6 a200_7 a200_8 A200_9 c200_9 l200_9 A200_10 c200_10 l200_10 A200_11 c200_11 l200_11 A200_12 c200_12 l200_12 a200_13 a200_14 a200_15 a200_16 A200_17 c200_17 l200_17 A200_18 c200_18 l200_18 A200_19 c200_19 l200_19 A200_20 c200_20 l200_20 A200_21 c200_21 l200_21 A200_22 c200_22 l200_22 a200_23 a200_24 a200_25 a200_26 a200_27 A200_28 c200_28 l200_28 a200_29 a200_30 a200_31 a201 a202_0 a202_1 a202_2 a202_3 a202_4 a202_5 a202_6 a202_7 a202_8 A202_9 c202_9 l202_9 A202_10 c202_10 l202_10 A202_11 c202_11 l202_11 A202_12 c202_12 l202_12 a202_13 a202_14 a202_15 a202_16 A202_17 c202_17 l202_17 A202_18 c202_18 l202_18 A202_19 c202_19 l202_19 A202_20 c202_20 l202_20 A202_21 c202_21 l202_21 A202_22 c202_22 l202_22 a202_23 a202_24 a202_25 a202_26 a202_27 A202_28 c202_28 l202_28 a202_29 a202_30 a202_31 a203 _ _ ?side1 ?side2 ?side3 ?side4 ?side5 ?side6 ?side7 ?side8 ?side9 ?side10 ?side11 ?side12 ?side13 ?side14 ?side15 ?side16 ?side17 ?side18 ?side19 ?side20 ?side21 ?side22 ?side23 ?side24 ?side25 ?side26 ?side27 ?side28 ?side29 ?side30 ?side31 ?side32 ?side33 ?side34 ?side35 ?side36 ?side37 ?side38 ?side39 ?side40 ?side41 ?side42 ?side43 ?side44 ?side45 ?side46 ?side47 ?side48 ?side49 ?side50 ?side51 ?side52 ?side53 ?side54 ?side55 ?side56 A3.out).mono ?_); (case side1 => exact s_C HR0.out); (case side2 => exact HC0.out); (case side3 => exact s_C HR200_9.out); (case side4 => exact HC200_9.out); (case side5 => exact s_C HR200_10.out); (case side6 => exact HC200_10.out); (case side7 => exact s_C HR200_11.out); (case side8 => exact HC200_11.out); (case side9 => exact s_C HR200_12.out); (case side10 => exact HC200_12.out); (case side11 => exact s_C HR200_17.out); (case side12 => exact HC200_17.out); (case side13 => exact s_C HR200_18.out); (case side14 => exact HC200_18.out); (case side15 => exact s_C HR200_19.out); (case side16 => exact HC200_19.out); (case side17 => exact s_C HR200_20.out); (case side18 => exact HC200_20.out); (case side19 => exact s_C HR200_21.out); (case side20 => exact HC200_21.out); (case side21 => exact s_C HR200_22.out); (case side22 => exact HC200_22.out); (case side23 => exact s_C HR200_28.out); (case side24 => exact HC200_28.out); (case side25 => exact s_C HR202_9.out); (case side26 => exact HC202_9.out); (case side27 => exact s_C HR202_10.out); (case side28 => exact HC202_10.out); (case side29 => exact s_C HR202_11.out); (case side30 => exact HC202_11.out); (case side31 => exact s_C HR202_12.out); (case side32 => exact HC202_12.out); (case side33 => exact s_C HR202_17.out); (case side34 => exact HC202_17.out); (case side35 => exact s_C HR202_18.out); (case side36 => exact HC202_18.out); (case side37 => exact s_C HR202_19.out); (case side38 => exact HC202_19.out); (case side39 => exact s_C HR202_20.out); (case side40 => exact HC202_20.out); (case side41 => exact s_C HR202_21.out); (case side42 => exact HC202_21.out); (case side43 => exact s_C HR202_22.out); (case side44 => exact HC202_22.out); (case side45 => exact s_C HR202_28.out); (case side46 => exact HC202_28.out); (case side47 => exact (by exact s_k BK203.out)); (case side48 => exact (by exact s_k BK204.out)); (case side49 => exact (by exact s_k BK205.out)); (case side50 => exact (by exact s_k BK206.out)); (case side51 => exact NB203_204.out); (case side52 => exact NB203_205.out); (case side53 => exact NB203_206.out); (case side54 => exact NB204_205.out); (case side55 => exact NB204_206.out); (case side56 => exact NB205_206.out); rintro e w4 ⟨rfl, hb⟩; (try clear A3); replace BK203 := s_a (blk_below (s_k BK203.out) hb); replace BK204 := s_a (blk_below (s_k BK204.out) hb); replace BK205 := s_a (blk_below (s_k BK205.out) hb); replace BK206 := s_a (blk_below (s_k BK206.out) hb); replace HB := s_a (below_step (by exact s_b HB.out) hb); (try clear hb)))
 go_ret
 exact ⟨by first | rfl | (simp [errW_none, errW_some] <;> rfl) | (simp [*, errW_none, errW_some] <;> rfl), by exact s_b HB.out⟩
def netpolicy_open.f (k : Nat) (l0 : List (S54)) (a1_0 : ByteArray) (a1_1 : ByteArray) (a1_2 : ByteArray) (a1_3 : Int) (a1_4 : Int) (a1_5 : Int) (a1_6 : Int) (a1_7 : Bool) (a1_8 : Int) (l1_9 : List (S72)) (l1_10 : List (S110)) (l1_11 : List ByteArray) (l1_12 : List (S112)) (a1_13 : ByteArray) (a1_14 : Int) (a1_15 : Int) (a1_16 : Int) (l1_17 : List (S117)) (l1_18 : List (S74)) (l1_19 : List (S119)) (l1_20 : List (S121)) (l1_21 : List (S123)) (l1_22 : List (S125)) (a1_23 : Int) (a1_24 : Bool) (a1_25 : Int) (a1_26 : Int) (a1_27 : Int) (l1_28 : List (S127)) (a1_29 : Int) (a1_30 : ByteArray) (a1_31 : ByteArray) (a2_0 : ByteArray) (a2_1 : ByteArray) (a2_2 : ByteArray) (a2_3 : Int) (a2_4 : Int) (a2_5 : Int) (a2_6 : Int) (a2_7 : Bool) (a2_8 : Int) (l2_9 : List (S72)) (l2_10 : List (S110)) (l2_11 : List ByteArray) (l2_12 : List (S112)) (a2_13 : ByteArray) (a2_14 : Int) (a2_15 : Int) (a2_16 : Int) (l2_17 : List (S117)) (l2_18 : List (S74)) (l2_19 : List (S119)) (l2_20 : List (S121)) (l2_21 : List (S123)) (l2_22 : List (S125)) (a2_23 : Int) (a2_24 : Bool) (a2_25 : Int) (a2_26 : Int) (a2_27 : Int) (l2_28 : List (S127)) (a2_29 : Int) (a2_30 : ByteArray) (a2_31 : ByteArray) (a3 : Int) (a4 : Bool) : Option (Bool) := (netpolicy_Isolated.f k l0 a1_0 a1_1 a1_2 a1_3 a1_4 a1_5 a1_6 a1_7 a1_8 l1_9 l1_10 l1_11 l1_12 a1_13 a1_14 a1_15 a1_16 l1_17 l1_18 l1_19 l1_20 l1_21 l1_22 a1_23 a1_24 a1_25 a1_26 a1_27 l1_28 a1_29 a1_30 a1_31 a4).bind fun t212 => (if t212 = true then ((api_NetworkPolicy_18_c30.f k l0 a1_0 a1_1 a1_2 a1_3 a1_4 a1_5 a1_6 a1_7 a1_8 l1_9 l1_10 l1_11 l1_12 a1_13 a1_14 a1_15 a1_16 l1_17 l1_18 l1_19 l1_20 l1_21 l1_22 a1_23 a1_24 a1_25 a1_26 a1_27 l1_28 a1_29 a1_30 a1_31 a4 a2_0 a2_1 a2_2 a2_3 a2_4 a2_5 a2_6 a2_7 a2_8 l2_9 l2_10 l2_11 l2_12 a2_13 a2_14 a2_15 a2_16 l2_17 l2_18 l2_19 l2_20 l2_21 l2_22 a2_23 a2_24 a2_25 a2_26 a2_27 l2_28 a2_29 a2_30 a2_31 a3).bind fun t213 => (some t213)) else (some true))
theorem netpolicy_open.mono : ∀ a0 a1 a2 a3 a4 a5 a6 a7 a8 a9 a10 a11 a12 a13 a14 a15 a16 a17 a18 a19 a20 a21 a22 a23 a24 a25 a26 a27 a28 a29 a30 a31 a32 a33 a34 a35 a36 a37 a38 a39 a40 a41 a42 a43 a44 a45 a46 a47 a48 a49 a50 a51 a52 a53 a54 a55 a56 a57 a58 a59 a60 a61 a62 a63 a64 a65 a66 k, LeO (netpolicy_open.f k a0 a1 a2 a3 a4 a5 a6 a7 a8 a9 a10 a11 a12 a13 a14 a15 a16 a17 a18 a19 a20 a21 a22 a23 a24 a25 a26 a27 a28 a29 a30 a31 a32 a33 a34 a35 a36 a37 a38 a39 a40 a41 a42 a43 a44 a45 a46 a47 a48 a49 a50 a51 a52 a53 a54 a55 a56 a57 a58 a59 a60 a61 a62 a63 a64 a65 a66) (netpolicy_open.f (k + 1) a0 a1 a2 a3 a4 a5 a6 a7 a8 a9 a10 a11 a12 a13 a14 a15 a16 a17 a18 a19 a20 a21 a22 a23 a24 a25 a26 a27 a28 a29 a30 a31 a32 a33 a34 a35 a36 a37 a38 a39 a40 a41 a42 a43 a44 a45 a46 a47 a48 a49 a50 a51 a52 a53 a54 a55 a56 a57 a58 a59 a60 a61 a62 a63 a64 a65 a66) := by
 intro a0 a1 a2 a3 a4 a5 a6 a7 a8 a9 a10 a11 a12 a13 a14 a15 a16 a17 a18 a19 a20 a21 a22 a23 a24 a25 a26 a27 a28 a29 a30 a31 a32 a33 a34 a35 a36 a37 a38 a39 a40 a41 a42 a43 a44 a45 a46 a47 a48 a49 a50 a51 a52 a53 a54 a55 a56 a57 a58 a59 a60 a61 a62 a63 a64 a65 a66 k
 unfold netpolicy_open.f
 repeat' first
   | (with_reducible exact api_NetworkPolicy_18_c30.mono _ _ _ _ _ _ _ _ _ _ _ _ _ _ _ _ _ _ _ _ _ _ _ _ _ _ _ _ _ _ _ _ _ _ _ _ _ _ _ _ _ _ _ _ _ _ _ _ _ _ _ _ _ _ _ _ _ _ _ _ _ _ _ _ _ _ _ _)
   | (with_reducible exact netpolicy_Isolated.mono _ _ _ _ _ _ _ _ _ _ _ _ _ _ _ _ _ _ _ _ _ _ _ _ _ _ _ _ _ _ _ _ _ _ _)
   | (with_reducible exact LeO.refl _)
   | (with_reducible exact LeO.none _)
   | (with_reducible refine LeO.ite ?_ ?_)
   | (with_reducible refine LeO.bind ?_ (fun _ => ?_))
   | exact api_NetworkPolicy_18_c30.mono _ _ _ _ _ _ _ _ _ _ _ _ _ _ _ _ _ _ _ _ _ _ _ _ _ _ _ _ _ _ _ _ _ _ _ _ _ _ _ _ _ _ _ _ _ _ _ _ _ _ _ _ _ _ _ _ _ _ _ _ _ _ _ _ _ _ _ _
   | exact netpolicy_Isolated.mono _ _ _ _ _ _ _ _ _ _ _ _ _ _ _ _ _ _ _ _ _ _ _ _ _ _ _ _ _ _ _ _ _ _ _
   | exact LeO.none _
   | refine LeO.ite ?_ ?_
   | refine LeO.bind ?_ (fun _ => ?_)
set_option maxHeartbeats 8000000 in
set_option maxRecDepth 100000 in
theorem netpolicy_open.calls (k : Nat) (A0 : Option Addr) (c0 : Nat) (l0 : List (S54)) (a1_0 : ByteArray) (a1_1 : ByteArray) (a1_2 : ByteArray) (a1_3 : Int) (a1_4 : Int) (a1_5 : Int) (a1_6 : Int) (a1_7 : Bool) (a1_8 : Int) (A1_9 : Option Addr) (c1_9 : Nat) (l1_9 : List (S72)) (A1_10 : Option Addr) (c1_10 : Nat) (l1_10 : List (S110)) (A1_11 : Option Addr) (c1_11 : Nat) (l1_11 : List ByteArray) (A1_12 : Option Addr) (c1_12 : Nat) (l1_12 : List (S112)) (a1_13 : ByteArray) (a1_14 : Int) (a1_15 : Int) (a1_16 : Int) (A1_17 : Option Addr) (c1_17 : Nat) (l1_17 : List (S117)) (A1_18 : Option Addr) (c1_18 : Nat) (l1_18 : List (S74)) (A1_19 : Option Addr) (c1_19 : Nat) (l1_19 : List (S119)) (A1_20 : Option Addr) (c1_20 : Nat) (l1_20 : List (S121)) (A1_21 : Option Addr) (c1_21 : Nat) (l1_21 : List (S123)) (A1_22 : Option Addr) (c1_22 : Nat) (l1_22 : List (S125)) (a1_23 : Int) (a1_24 : Bool) (a1_25 : Int) (a1_26 : Int) (a1_27 : Int) (A1_28 : Option Addr) (c1_28 : Nat) (l1_28 : List (S127)) (a1_29 : Int) (a1_30 : ByteArray) (a1_31 : ByteArray) (a2_0 : ByteArray) (a2_1 : ByteArray) (a2_2 : ByteArray) (a2_3 : Int) (a2_4 : Int) (a2_5 : Int) (a2_6 : Int) (a2_7 : Bool) (a2_8 : Int) (A2_9 : Option Addr) (c2_9 : Nat) (l2_9 : List (S72)) (A2_10 : Option Addr) (c2_10 : Nat) (l2_10 : List (S110)) (A2_11 : Option Addr) (c2_11 : Nat) (l2_11 : List ByteArray) (A2_12 : Option Addr) (c2_12 : Nat) (l2_12 : List (S112)) (a2_13 : ByteArray) (a2_14 : Int) (a2_15 : Int) (a2_16 : Int) (A2_17 : Option Addr) (c2_17 : Nat) (l2_17 : List (S117)) (A2_18 : Option Addr) (c2_18 : Nat) (l2_18 : List (S74)) (A2_19 : Option Addr) (c2_19 : Nat) (l2_19 : List (S119)) (A2_20 : Option Addr) (c2_20 : Nat) (l2_20 : List (S121)) (A2_21 : Option Addr) (c2_21 : Nat) (l2_21 : List (S123)) (A2_22 : Option Addr) (c2_22 : Nat) (l2_22 : List (S125)) (a2_23 : Int) (a2_24 : Bool) (a2_25 : Int) (a2_26 : Int) (a2_27 : Int) (A2_28 : Option Addr) (c2_28 : Nat) (l2_28 : List (S127)) (a2_29 : Int) (a2_30 : ByteArray) (a2_31 : ByteArray) (a3 : Int) (a4 : Bool) (r : Bool) (w : World) (hr0 : Kd.C k54 w A0 l0.length l0) (hc0 : l0.length ≤ c0) (hr1_9 : Kd.C k72 w A1_9 l1_9.length l1_9) (hc1_9 : l1_9.length ≤ c1_9) (hr1_10 : Kd.C k110 w A1_10 l1_10.length l1_10) (hc1_10 : l1_10.length ≤ c1_10) (hr1_11 : Kd.C Kd.string w A1_11 l1_11.length l1_11) (hc1_11 : l1_11.length ≤ c1_11) (hr1_12 : Kd.C k112 w A1_12 l1_12.length l1_12) (hc1_12 : l1_12.length ≤ c1_12) (hr1_17 : Kd.C k117 w A1_17 l1_17.length l1_17) (hc1_17 : l1_17.length ≤ c1_17) (hr1_18 : Kd.C k74 w A1_18 l1_18.length l1_18) (hc1_18 : l1_18.length ≤ c1_18) (hr1_19 : Kd.C k119 w A1_19 l1_19.length l1_19) (hc1_19 : l1_19.length ≤ c1_19) (hr1_20 : Kd.C k121 w A1_20 l1_20.length l1_20) (hc1_20 : l1_20.length ≤ c1_20) (hr1_21 : Kd.C k123 w A1_21 l1_21.length l1_21) (hc1_21 : l1_21.length ≤ c1_21) (hr1_22 : Kd.C k125 w A1_22 l1_22.length l1_22) (hc1_22 : l1_22.length ≤ c1_22) (hr1_28 : Kd.C k127 w A1_28 l1_28.length l1_28) (hc1_28 : l1_28.length ≤ c1_28) (hr2_9 : Kd.C k72 w A2_9 l2_9.length l2_9) (hc2_9 : l2_9.length ≤ c2_9) (hr2_10 : Kd.C k110 w A2_10 l2_10.length l2_10) (hc2_10 : l2_10.length ≤ c2_10) (hr2_11 : Kd.C Kd.string w A2_11 l2_11.length l2_11) (hc2_11 : l2_11.length ≤ c2_11) (hr2_12 : Kd.C k112 w A2_12 l2_12.length l2_12) (hc2_12 : l2_12.length ≤ c2_12) (hr2_17 : Kd.C k117 w A2_17 l2_17.length l2_17) (hc2_17 : l2_17.length ≤ c2_17) (hr2_18 : Kd.C k74 w A2_18 l2_18.length l2_18) (hc2_18 : l2_18.length ≤ c2_18) (hr2_19 : Kd.C k119 w A2_19 l2_19.length l2_19) (hc2_19 : l2_19.length ≤ c2_19) (hr2_20 : Kd.C k121 w A2_20 l2_20.length l2_20) (hc2_20 : l2_20.length ≤ c2_20) (hr2_21 : Kd.C k123 w A2_21 l2_21.length l2_21) (hc2_21 : l2_21.length ≤ c2_21) (hr2_22 : Kd.C k125 w A2_22 l2_22.length l2_22) (hc2_22 : l2_22.length ≤ c2_22) (hr2_28 : Kd.C k127 w A2_28 l2_28.length l2_28) (hc2_28 : l2_28.length ≤ c2_28) (h : netpolicy_open.f k l0 a1_0 a1_1 a1_2 a1_3 a1_4 a1_5 a1_6 a1_7 a1_8 l1_9 l1_10 l1_11 l1_12 a1_13 a1_14 a1_15 a1_16 l1_17 l1_18 l1_19 l1_20 l1_21 l1_22 a1_23 a1_24 a1_25 a1_26 a1_27 l1_28 a1_29 a1_30 a1_31 a2_0 a2_1 a2_2 a2_3 a2_4 a2_5 a2_6 a2_7 a2_8 l2_9 l2_10 l2_11 l2_12 a2_13 a2_14 a2_15 a2_16 l2_17 l2_18 l2_19 l2_20 l2_21 l2_22 a2_23 a2_24 a2_25 a2_26 a2_27 l2_28 a2_29 a2_30 a2_31 a3 a4 = some r) :
  Calls Try.prog 23 #[.slice A0 l0.length c0, .agg #[.string a1_0, .string a1_1, .string a1_2, .int .i64 a1_3, .int .i64 a1_4, .int .i64 a1_5, .int .i64 a1_6, .bool a1_7, .int .i64 a1_8, .slice A1_9 l1_9.length c1_9, .slice A1_10 l1_10.length c1_10, .slice A1_11 l1_11.length c1_11, .slice A1_12 l1_12.length c1_12, .string a1_13, .int .i64 a1_14, .int .i64 a1_15, .int .i64 a1_16, .slice A1_17 l1_17.length c1_17, .slice A1_18 l1_18.length c1_18, .slice A1_19 l1_19.length c1_19, .slice A1_20 l1_20.length c1_20, .slice A1_21 l1_21.length c1_21, .slice A1_22 l1_22.length c1_22, .int .i64 a1_23, .bool a1_24, .int .i64 a1_25, .int .i64 a1_26, .int .i64 a1_27, .slice A1_28 l1_28.length c1_28, .int .i64 a1_29, .string a1_30, .string a1_31], .agg #[.string a2_0, .string a2_1, .string a2_2, .int .i64 a2_3, .int .i64 a2_4, .int .i64 a2_5, .int .i64 a2_6, .bool a2_7, .int .i64 a2_8, .slice A2_9 l2_9.length c2_9, .slice A2_10 l2_10.length c2_10, .slice A2_11 l2_11.length c2_11, .slice A2_12 l2_12.length c2_12, .string a2_13, .int .i64 a2_14, .int .i64 a2_15, .int .i64 a2_16, .slice A2_17 l2_17.length c2_17, .slice A2_18 l2_18.length c2_18, .slice A2_19 l2_19.length c2_19, .slice A2_20 l2_20.length c2_20, .slice A2_21 l2_21.length c2_21, .slice A2_22 l2_22.length c2_22, .int .i64 a2_23, .bool a2_24, .int .i64 a2_25, .int .i64 a2_26, .int .i64 a2_27, .slice A2_28 l2_28.length c2_28, .int .i64 a2_29, .string a2_30, .string a2_31], .int .i64 a3, .bool a4] w fun e w' => e = .returned (.bool r) ∧ Below w.heap.size w w' := by
 have hu41 := Try.underlying41
 have HR0 := s_a hr0
 have HC0 := s_a hc0
 clear hr0 hc0
 have HR1_9 := s_a hr1_9
 have HC1_9 := s_a hc1_9
 clear hr1_9 hc1_9
 have HR1_10 := s_a hr1_10
 have HC1_10 := s_a hc1_10
 clear hr1_10 hc1_10
 have HR1_11 := s_a hr1_11
 have HC1_11 := s_a hc1_11
 clear hr1_11 hc1_11
 have HR1_12 := s_a hr1_12
 have HC1_12 := s_a hc1_12
 clear hr1_12 hc1_12
 have HR1_17 := s_a hr1_17
 have HC1_17 := s_a hc1_17
 clear hr1_17 hc1_17
 have HR1_18 := s_a hr1_18
 have HC1_18 := s_a hc1_18
 clear hr1_18 hc1_18
 have HR1_19 := s_a hr1_19
 have HC1_19 := s_a hc1_19
 clear hr1_19 hc1_19
 have HR1_20 := s_a hr1_20
 have HC1_20 := s_a hc1_20
 clear hr1_20 hc1_20
 have HR1_21 := s_a hr1_21
 have HC1_21 := s_a hc1_21
 clear hr1_21 hc1_21
 have HR1_22 := s_a hr1_22
 have HC1_22 := s_a hc1_22
 clear hr1_22 hc1_22
 have HR1_28 := s_a hr1_28
 have HC1_28 := s_a hc1_28
 clear hr1_28 hc1_28
 have HR2_9 := s_a hr2_9
 have HC2_9 := s_a hc2_9
 clear hr2_9 hc2_9
 have HR2_10 := s_a hr2_10
 have HC2_10 := s_a hc2_10
 clear hr2_10 hc2_10
 have HR2_11 := s_a hr2_11
 have HC2_11 := s_a hc2_11
 clear hr2_11 hc2_11
 have HR2_12 := s_a hr2_12
 have HC2_12 := s_a hc2_12
 clear hr2_12 hc2_12
 have HR2_17 := s_a hr2_17
 have HC2_17 := s_a hc2_17
 clear hr2_17 hc2_17
 have HR2_18 := s_a hr2_18
 have HC2_18 := s_a hc2_18
 clear hr2_18 hc2_18
 have HR2_19 := s_a hr2_19
 have HC2_19 := s_a hc2_19
 clear hr2_19 hc2_19
 have HR2_20 := s_a hr2_20
 have HC2_20 := s_a hc2_20
 clear hr2_20 hc2_20
 have HR2_21 := s_a hr2_21
 have HC2_21 := s_a hc2_21
 clear hr2_21 hc2_21
 have HR2_22 := s_a hr2_22
 have HC2_22 := s_a hc2_22
 clear hr2_22 hc2_22
 have HR2_28 := s_a hr2_28
 have HC2_28 := s_a hc2_28
 clear hr2_28 hc2_28
 have HB := s_a (Below.refl w.heap.size w)
 have H := h; unfold netpolicy_open.f at H
 clear h
 replace H := Option.bind_eq_some_iff.mp H
 obtain ⟨t212, A60, H⟩ := H
 (try dsimp only at H)
 have A6 := s_a A60
 clear A60
 by_cases c7 : t212 = true
 ·subst c7
  (try rw [if_pos rfl] at H)
  replace H := Option.bind_eq_some_iff.mp H
  obtain ⟨t213, A80, H⟩ := H
  replace H : (some t213) = some r := H
  have A8 := s_a A80
  clear A80
  obtain rfl := Option.some.inj H
  go_enter Try.func23, Try.ntmps23
  go_wp2_with (first | ((with_reducible refine gate_dst (N := 6) rfl ?_); refine box_event ?hg (N := 6) ?hd (cs := #[.string a1_0, .string a1_1, .string a1_2, .int .i64 a1_3, .int .i64 a1_4, .int .i64 a1_5, .int .i64 a1_6, .bool a1_7, .int .i64 a1_8, .slice A1_9 l1_9.length c1_9, .slice A1_10 l1_10.length c1_10, .slice A1_11 l1_11.length c1_11, .slice A1_12 l1_12.length c1_12, .string a1_13, .int .i64 a1_14, .int .i64 a1_15, .int .i64 a1_16, .slice A1_17 l1_17.length c1_17, .slice A1_18 l1_18.length c1_18, .slice A1_19 l1_19.length c1_19, .slice A1_20 l1_20.length c1_20, .slice A1_21 l1_21.length c1_21, .slice A1_22 l1_22.length c1_22, .int .i64 a1_23, .bool a1_24, .int .i64 a1_25, .int .i64 a1_26, .int .i64 a1_27, .slice A1_28 l1_28.length c1_28, .int .i64 a1_29, .string a1_30, .string a1_31]) (t := 41) ?hr ?_; (case hd => rfl); (case hg => rfl); (case hr => first | (go_simp; done) | (go_simp; rfl)); intro gb208 hg w9 hbox hb; have BK208 := s_a (hbox); have GW208 := s_a ((by rw [hg]; exact (below_size (by exact s_b HB.out)) : w.heap.size ≤ gb208)); have GE208 := s_a ((by rw [hg]; exact (below_size (by exact s_b HB.out)) : w.heap.size ≤ gb208)); replace HB := s_a (below_step (by exact s_b HB.out) hb); clear hb hbox hg) | ((with_reducible refine gate_dst (N := 7) rfl ?_); refine box_event ?hg (N := 7) ?hd (cs := #[.string a2_0, .string a2_1, .string a2_2, .int .i64 a2_3, .int .i64 a2_4, .int .i64 a2_5, .int .i64 a2_6, .bool a2_7, .int .i64 a2_8, .slice A2_9 l2_9.length c2_9, .slice A2_10 l2_10.length c2_10, .slice A2_11 l2_11.length c2_11, .slice A2_12 l2_12.length c2_12, .string a2_13, .int .i64 a2_14, .int .i64 a2_15, .int .i64 a2_16, .slice A2_17 l2_17.length c2_17, .slice A2_18 l2_18.length c2_18, .slice A2_19 l2_19.length c2_19, .slice A2_20 l2_20.length c2_20, .slice A2_21 l2_21.length c2_21, .slice A2_22 l2_22.length c2_22, .int .i64 a2_23, .bool a2_24, .int .i64 a2_25, .int .i64 a2_26, .int .i64 a2_27, .slice A2_28 l2_28.length c2_28, .int .i64 a2_29, .string a2_30, .string a2_31]) (t := 41) ?hr ?_; (case hd => rfl); (case hg => rfl); (case hr => first | (go_simp; done) | (go_simp; rfl)); intro gb209 hg w10 hbox hb; have BK209 := s_a (hbox); have GW209 := s_a ((by rw [hg]; exact (below_size (by exact s_b HB.out)) : w.heap.size ≤ gb209)); have GE209 := s_a ((by rw [hg]; exact (below_size (by exact s_b HB.out)) : w.heap.size ≤ gb209)); have NB208_209 := s_a ((by rw [hg]; exact Nat.ne_of_lt (blk_lt (s_k BK208.out)) : gb208 ≠ gb209)); have NB209_208 := s_a ((by rw [hg]; exact Nat.ne_of_gt (blk_lt (s_k BK208.out)) : gb209 ≠ gb208)); replace BK208 := s_a (blk_below (s_k BK208.out) hb); replace HB := s_a (below_step (by exact s_b HB.out) hb); clear hb hbox hg) | ((with_reducible refine gate_dst (N := 8) rfl ?_); refine box_event ?hg (N := 8) ?hd (cs := #[.int .i64 a3]) (t := 3) ?hr ?_; (case hd => rfl); (case hg => rfl); (case hr => first | (go_simp; done) | (go_simp; rfl)); intro gb210 hg w11 hbox hb; have BK210 := s_a (hbox); have GW210 := s_a ((by rw [hg]; exact (below_size (by exact s_b HB.out)) : w.heap.size ≤ gb210)); have GE210 := s_a ((by rw [hg]; exact (below_size (by exact s_b HB.out)) : w.heap.size ≤ gb210)); have NB208_210 := s_a ((by rw [hg]; exact Nat.ne_of_lt (blk_lt (s_k BK208.out)) : gb208 ≠ gb210)); have NB210_208 := s_a ((by rw [hg]; exact Nat.ne_of_gt (blk_lt (s_k BK208.out)) : gb210 ≠ gb208)); have NB209_210 := s_a ((by rw [hg]; exact Nat.ne_of_lt (blk_lt (s_k BK209.out)) : gb209 ≠ gb210)); have NB210_209 := s_a ((by rw [hg]; exact Nat.ne_of_gt (blk_lt (s_k BK209.out)) : gb210 ≠ gb209)); replace BK208 := s_a (blk_below (s_k BK208.out) hb); replace BK209 := s_a (blk_below (s_k BK209.out) hb); replace HB := s_a (below_step (by exact s_b HB.out) hb); clear hb hbox hg) | ((with_reducible refine gate_dst (N := 9) rfl ?_); refine box_event ?hg (N := 9) ?hd (cs := #[.bool a4]) (t := 4) ?hr ?_; (case hd => rfl); (case hg => rfl); (case hr => first | (go_simp; done) | (go_simp; rfl)); intro gb211 hg w12 hbox hb; have BK211 := s_a (hbox); have GW211 := s_a ((by rw [hg]; exact (below_size (by exact s_b HB.out)) : w.heap.size ≤ gb211)); have GE211 := s_a ((by rw [hg]; exact (below_size (by exact s_b HB.out)) : w.heap.size ≤ gb211)); have NB208_211 := s_a ((by rw [hg]; exact Nat.ne_of_lt (blk_lt (s_k BK208.out)) : gb208 ≠ gb211)); have NB211_208 := s_a ((by rw [hg]; exact Nat.ne_of_gt (blk_lt (s_k BK208.out)) : gb211 ≠ gb208)); have NB209_211 := s_a ((by rw [hg]; exact Nat.ne_of_lt (blk_lt (s_k BK209.out)) : gb209 ≠ gb211)); have NB211_209 := s_a ((by rw [hg]; exact Nat.ne_of_gt (blk_lt (s_k BK209.out)) : gb211 ≠ gb209)); have NB210_211 := s_a ((by rw [hg]; exact Nat.ne_of_lt (blk_lt (s_k BK210.out)) : gb210 ≠ gb211)); have NB211_210 := s_a ((by rw [hg]; exact Nat.ne_of_gt (blk_lt (s_k BK210.out)) : gb211 ≠ gb210)); replace BK208 := s_a (blk_below (s_k BK208.out) hb); replace BK209 := s_a (blk_below (s_k BK209.out) hb); replace BK210 := s_a (blk_below (s_k BK210.out) hb); replace HB := s_a (below_step (by exact s_b HB.out) hb); clear hb hbox hg) | ((with_reducible refine gate_dst (N := 12) rfl ?_); refine wpList_load_row rfl 41 (.tmp 6) rfl gb208 rfl 41 _ (0, 0) _ (s_k BK208.out) Try.underlying41 rfl sz41 ?_; have hnb13 := NB211_208.out; have hnc13 := NB208_211.out; have hnb14 := NB211_209.out; have hnc14 := NB209_211.out; have hnb15 := NB211_210.out; have hnc15 := NB210_211.out; have hcz16_0 : w12.cell? ⟨gb211, 0, none⟩ = some (.bool a4) := (blk_cell BK211.out 0).trans rfl) | ((with_reducible refine gate_callee (f := 9) rfl ?_); refine goesL_ (some 14) rfl rfl Try.func9 (by kernel_rfl) rfl #[.slice A0 l0.length c0, .agg #[.string a1_0, .string a1_1, .string a1_2, .int .i64 a1_3, .int .i64 a1_4, .int .i64 a1_5, .int .i64 a1_6, .bool a1_7, .int .i64 a1_8, .slice A1_9 l1_9.length c1_9, .slice A1_10 l1_10.length c1_10, .slice A1_11 l1_11.length c1_11, .slice A1_12 l1_12.length c1_12, .string a1_13, .int .i64 a1_14, .int .i64 a1_15, .int .i64 a1_16, .slice A1_17 l1_17.length c1_17, .slice A1_18 l1_18.length c1_18, .slice A1_19 l1_19.length c1_19, .slice A1_20 l1_20.length c1_20, .slice A1_21 l1_21.length c1_21, .slice A1_22 l1_22.length c1_22, .int .i64 a1_23, .bool a1_24, .int .i64 a1_25, .int .i64 a1_26, .int .i64 a1_27, .slice A1_28 l1_28.length c1_28, .int .i64 a1_29, .string a1_30, .string a1_31], .bool a4] rfl (by (try simp only [List.map_toArray, List.map_cons, List.map_nil]); first | done | rfl | (simp only [List.length_drop, List.length_take]; rfl)) ?_; (with_reducible refine (netpolicy_Isolated.calls k _ _ _ _ _ _ _ _ _ _ _ _ _ _ _ _ _ _ _ _ _ _ _ _ _ _ _ _ _ _ _ _ _ _ _ _ _ _ _ _ _ _ _ _ _ _ _ _ _ _ _ _ _ _ _ _ _ _ _ _ ?side1 ?side2 ?side3 ?side4 ?side5 ?side6 ?side7 ?side8 ?side9 ?side10 ?side11 ?side12 ?side13 ?side14 ?side15 ?side16 ?side17 ?side18 ?side19 ?side20 ?side21 ?side22 ?side23 ?side24 A6.out).mono ?_); (case side1 => exact s_D HR0.out HB.out); (case side2 => exact HC0.out); (case side3 => exact s_D HR1_9.out HB.out); (case side4 => exact HC1_9.out); (case side5 => exact s_D HR1_10.out HB.out); (case side6 => exact HC1_10.out); (case side7 => exact s_D HR1_11.out HB.out); (case side8 => exact HC1_11.out); (case side9 => exact s_D HR1_12.out HB.out); (case side10 => exact HC1_12.out); (case side11 => exact s_D HR1_17.out HB.out); (case side12 => exact HC1_17.out); (case side13 => exact s_D HR1_18.out HB.out); (case side14 => exact HC1_18.out); (case side15 => exact s_D HR1_19.out HB.out); (case side16 => exact HC1_19.out); (case side17 => exact s_D HR1_20.out HB.out); (case side18 => exact HC1_20.out); (case side19 => exact s_D HR1_21.out HB.out); (case side20 => exact HC1_21.out); (case side21 => exact s_D HR1_22.out HB.out); (case side22 => exact HC1_22.out); (case side23 => exact s_D HR1_28.out HB.out); (case side24 => exact HC1_28.out); rintro e w17 ⟨rfl, hb⟩; refine ⟨_, rfl, ?_⟩; replace BK208 := s_a (blk_below (s_k BK208.out) hb); replace BK209 := s_a (blk_below (s_k BK209.out) hb); replace BK210 := s_a (blk_below (s_k BK210.out) hb); replace BK211 := s_a (blk_below (s_k BK211.out) hb); replace HB := s_a (below_step (by exact s_b HB.out) hb); (try clear hb)) | (go_at_call 18; (with_reducible refine (api_NetworkPolicy_18_c30.calls k _ _ _ gb208 gb211 gb209 gb210 a1_0 a1_1 a1_2 a1_3 a1_4 a1_5 a1_6 a1_7 a1_8 A1_9 c1_9 l1_9 A1_10 c1_10 l1_10 A1_11 c1_11 l1_11 A1_12 c1_12 l1_12 a1_13 a1_14 a1_15 a1_16 A1_17 c1_17 l1_17 A1_18 c1_18 l1_18 A1_19 c1_19 l1_19 A1_20 c1_20 l1_20 A1_21 c1_21 l1_21 A1_22 c1_22 l1_22 a1_23 a1_24 a1_25 a1_26 a1_27 A1_28 c1_28 l1_28 a1_29 a1_30 a1_31 a4 a2_0 a2_1 a2_2 a2_3 a2_4 a2_5 a2_6 a2_7 a2_8 A2_9 c2_9 l2_9 A2_10 c2_10 l2_10 A2_11 c2_11 l2_11 A2_12 c2_12 l2_12 a2_13 a2_14 a2_15 a2_16 A2_17 c2_17 l2_17 A2_18 c2_18 l2_18 A2_19 c2_19 l2_19 A2_20 c2_20 l2_20 A2_21 c2_21 l2_21 A2_22 c2_22 l2_22 a2_23 a2_24 a2_25 a2_26 a2_27 A2_28 c2_28 l2_28 a2_29 a2_30 a2_31 a3 _ _ ?side1 ?side2 ?side3 ?side4 ?side5 ?side6 ?side7 ?side8 ?side9 ?side10 ?side11 ?side12 ?side13 ?side14 ?side15 ?side16 ?side17 ?side18 ?side19 ?side20 ?side21 ?side22 ?side23 ?side24 ?side25 ?side26 ?side27 ?side28 ?side29 ?side30 ?side31 ?side32 ?side33 ?side34 ?side35 ?side36 ?side37 ?side38 ?side39 ?side40 ?side41 ?side42 ?side43 ?side44 ?side45 ?side46 ?side47 ?side48 ?side49 ?side50 ?side51 ?side52 ?side53 ?side54 ?side55 ?side56 A8.out).mono ?_); (case side1 => exact s_D HR0.out HB.out); (case side2 => exact HC0.out); (case side3 => exact s_D HR1_9.out HB.out); (case side4 => exact HC1_9.out); (case side5 => exact s_D HR1_10.out HB.out); (case side6 => exact HC1_10.out); (case side7 => exact s_D HR1_11.out HB.out); (case side8 => exact HC1_11.out); (case side9 => exact s_D HR1_12.out HB.out); (case side10 => exact HC1_12.out); (case side11 => exact s_D HR1_17.out HB.out); (case side12 => exact HC1_17.out); (case side13 => exact s_D HR1_18.out HB.out); (case side14 => exact HC1_18.out); (case side15 => exact s_D HR1_19.out HB.out); (case side16 => exact HC1_19.out); (case side17 => exact s_D HR1_20.out HB.out); (case side18 => exact HC1_20.out); (case side19 => exact s_D HR1_21.out HB.out); (case side20 => exact HC1_21.out); (case side21 => exact s_D HR1_22.out HB.out); (case side22 => exact HC1_22.out); (case side23 => exact s_D HR1_28.out HB.out); (case side24 => exact HC1_28.out); (case side25 => exact s_D HR2_9.out HB.out); (case side26 => exact HC2_9.out); (case side27 => exact s_D HR2_10.out HB.out); (case side28 => exact HC2_10.out); (case side29 => exact s_D HR2_11.out HB.out); (case side30 => exact HC2_11.out); (case side31 => exact s_D HR2_12.out HB.out); (case side32 => exact HC2_12.out); (case side33 => exact s_D HR2_17.out HB.out); (case side34 => exact HC2_17.out); (case side35 => exact s_D HR2_18.out HB.out); (case side36 => exact HC2_18.out); (case side37 => exact s_D HR2_19.out HB.out); (case side38 => exact HC2_19.out); (case side39 => exact s_D HR2_20.out HB.out); (case side40 => exact HC2_20.out); (case side41 => exact s_D HR2_21.out HB.out); (case side42 => exact HC2_21.out); (case side43 => exact s_D HR2_22.out HB.out); (case side44 => exact HC2_22.out); (case side45 => exact s_D HR2_28.out HB.out); (case side46 => exact HC2_28.out); (case side47 => exact (by exact s_k BK208.out)); (case side48 => exact (by exact s_k BK211.out)); (case side49 => exact (by exact s_k BK209.out)); (case side50 => exact (by exact s_k BK210.out)); (case side51 => exact NB208_211.out); (case side52 => exact NB208_209.out); (case side53 => exact NB208_210.out); (case side54 => exact NB211_209.out); (case side55 => exact NB211_210.out); (case side56 => exact NB209_210.out); rintro e w18 ⟨rfl, hb⟩; (try clear A8); replace BK208 := s_a (blk_below (s_k BK208.out) hb); replace BK209 := s_a (blk_below (s_k BK209.out) hb); replace BK210 := s_a (blk_below (s_k BK210.out) hb); replace BK211 := s_a (blk_below (s_k BK211.out) hb); replace HB := s_a (below_step (by exact s_b HB.out) hb); (try clear hb)))
  go_ret
  exact ⟨by first | rfl | (simp [errW_none, errW_some] <;> rfl) | (simp [*, errW_none, errW_some] <;> rfl), by exact s_b HB.out⟩
 ·replace c7 := Bool.eq_false_iff.mpr c7
  subst c7
  (try rw [if_neg (show ¬ (false = true) by decide)] at H)
  obtain rfl := Option.some.inj H
  go_enter Try.func23, Try.ntmps23
  go_wp2_with (first | ((with_reducible refine gate_dst (N := 6) rfl ?_); refine box_event ?hg (N := 6) ?hd (cs := #[.string a1_0, .string a1_1, .string a1_2, .int .i64 a1_3, .int .i64 a1_4, .int .i64 a1_5, .int .i64 a1_6, .bool a1_7, .int .i64 a1_8, .slice A1_9 l1_9.length c1_9, .slice A1_10 l1_10.length c1_10, .slice A1_11 l1_11.length c1_11, .slice A1_12 l1_12.length c1_12, .string a1_13, .int .i64 a1_14, .int .i64 a1_15, .int .i64 a1_16, .slice A1_17 l1_17.length c1_17, .slice A1_18 l1_18.length c1_18, .slice A1_19 l1_19.length c1_19, .slice A1_20 l1_20.length c1_20, .slice A1_21 l1_21.length c1_21, .slice A1_22 l1_22.length c1_22, .int .i64 a1_23, .bool a1_24, .int .i64 a1_25, .int .i64 a1_26, .int .i64 a1_27, .slice A1_28 l1_28.length c1_28, .int .i64 a1_29, .string a1_30, .string a1_31]) (t := 41) ?hr ?_; (case hd => rfl); (case hg => rfl); (case hr => first | (go_simp; done) | (go_simp; rfl)); intro gb208 hg w19 hbox hb; have BK208 := s_a (hbox); have GW208 := s_a ((by rw [hg]; exact (below_size (by exact s_b HB.out)) : w.heap.size ≤ gb208)); have GE208 := s_a ((by rw [hg]; exact (below_size (by exact s_b HB.out)) : w.heap.size ≤ gb208)); replace HB := s_a (below_step (by exact s_b HB.out) hb); clear hb hbox hg) | ((with_reducible refine gate_dst (N := 7) rfl ?_); refine box_event ?hg (N := 7) ?hd (cs := #[.string a2_0, .string a2_1, .string a2_2, .int .i64 a2_3, .int .i64 a2_4, .int .i64 a2_5, .int .i64 a2_6, .bool a2_7, .int .i64 a2_8, .slice A2_9 l2_9.length c2_9, .slice A2_10 l2_10.length c2_10, .slice A2_11 l2_11.length c2_11, .slice A2_12 l2_12.length c2_12, .string a2_13, .int .i64 a2_14, .int .i64 a2_15, .int .i64 a2_16, .slice A2_17 l2_17.length c2_17, .slice A2_18 l2_18.length c2_18, .slice A2_19 l2_19.length c2_19, .slice A2_20 l2_20.length c2_20, .slice A2_21 l2_21.length c2_21, .slice A2_22 l2_22.length c2_22, .int .i64 a2_23, .bool a2_24, .int .i64 a2_25, .int .i64 a2_26, .int .i64 a2_27, .slice A2_28 l2_28.length c2_28, .int .i64 a2_29, .string a2_30, .string a2_31]) (t := 41) ?hr ?_; (case hd => rfl); (case hg => rfl); (case hr => first | (go_simp; done) | (go_simp; rfl)); intro gb209 hg w20 hbox hb; have BK209 := s_a (hbox); have GW209 := s_a ((by rw [hg]; exact (below_size (by exact s_b HB.out)) : w.heap.size ≤ gb209)); have GE209 := s_a ((by rw [hg]; exact (below_size (by exact s_b HB.out)) : w.heap.size ≤ gb209)); have NB208_209 := s_a ((by rw [hg]; exact Nat.ne_of_lt (blk_lt (s_k BK208.out)) : gb208 ≠ gb209)); have NB209_208 := s_a ((by rw [hg]; exact Nat.ne_of_gt (blk_lt (s_k BK208.out)) : gb209 ≠ gb208)); replace BK208 := s_a (blk_below (s_k BK208.out) hb); replace HB := s_a (below_step (by exact s_b HB.out) hb); clear hb hbox hg) | ((with_reducible refine gate_dst (N := 8) rfl ?_); refine box_event ?hg (N := 8) ?hd (cs := #[.int .i64 a3]) (t := 3) ?hr ?_; (case hd => rfl); (case hg => rfl); (case hr => first | (go_simp; done) | (go_simp; rfl)); intro gb210 hg w21 hbox hb; have BK210 := s_a (hbox); have GW210 := s_a ((by rw [hg]; exact (below_size (by exact s_b HB.out)) : w.heap.size ≤ gb210)); have GE210 := s_a ((by rw [hg]; exact (below_size (by exact s_b HB.out)) : w.heap.size ≤ gb210)); have NB208_210 := s_a ((by rw [hg]; exact Nat.ne_of_lt (blk_lt (s_k BK208.out)) : gb208 ≠ gb210)); have NB210_208 := s_a ((by rw [hg]; exact Nat.ne_of_gt (blk_lt (s_k BK208.out)) : gb210 ≠ gb208)); have NB209_210 := s_a ((by rw [hg]; exact Nat.ne_of_lt (blk_lt (s_k BK209.out)) : gb209 ≠ gb210)); have NB210_209 := s_a ((by rw [hg]; exact Nat.ne_of_gt (blk_lt (s_k BK209.out)) : gb210 ≠ gb209)); replace BK208 := s_a (blk_below (s_k BK208.out) hb); replace BK209 := s_a (blk_below (s_k BK209.out) hb); replace HB := s_a (below_step (by exact s_b HB.out) hb); clear hb hbox hg) | ((with_reducible refine gate_dst (N := 9) rfl ?_); refine box_event ?hg (N := 9) ?hd (cs := #[.bool a4]) (t := 4) ?hr ?_; (case hd => rfl); (case hg => rfl); (case hr => first | (go_simp; done) | (go_simp; rfl)); intro gb211 hg w22 hbox hb; have BK211 := s_a (hbox); have GW211 := s_a ((by rw [hg]; exact (below_size (by exact s_b HB.out)) : w.heap.size ≤ gb211)); have GE211 := s_a ((by rw [hg]; exact (below_size (by exact s_b HB.out)) : w.heap.size ≤ gb211)); have NB208_211 := s_a ((by rw [hg]; exact Nat.ne_of_lt (blk_lt (s_k BK208.out)) : gb208 ≠ gb211)); have NB211_208 := s_a ((by rw [hg]; exact Nat.ne_of_gt (blk_lt (s_k BK208.out)) : gb211 ≠ gb208)); have NB209_211 := s_a ((by rw [hg]; exact Nat.ne_of_lt (blk_lt (s_k BK209.out)) : gb209 ≠ gb211)); have NB211_209 := s_a ((by rw [hg]; exact Nat.ne_of_gt (blk_lt (s_k BK209.out)) : gb211 ≠ gb209)); have NB210_211 := s_a ((by rw [hg]; exact Nat.ne_of_lt (blk_lt (s_k BK210.out)) : gb210 ≠ gb211)); have NB211_210 := s_a ((by rw [hg]; exact Nat.ne_of_gt (blk_lt (s_k BK210.out)) : gb211 ≠ gb210)); replace BK208 := s_a (blk_below (s_k BK208.out) hb); replace BK209 := s_a (blk_below (s_k BK209.out) hb); replace BK210 := s_a (blk_below (s_k BK210.out) hb); replace HB := s_a (below_step (by exact s_b HB.out) hb); clear hb hbox hg) | ((with_reducible refine gate_dst (N := 12) rfl ?_); refine wpList_load_row rfl 41 (.tmp 6) rfl gb208 rfl 41 _ (0, 0) _ (s_k BK208.out) Try.underlying41 rfl sz41 ?_; have hnb23 := NB211_208.out; have hnc23 := NB208_211.out; have hnb24 := NB211_209.out; have hnc24 := NB209_211.out; have hnb25 := NB211_210.out; have hnc25 := NB210_211.out; have hcz26_0 : w22.cell? ⟨gb211, 0, none⟩ = some (.bool a4) := (blk_cell BK211.out 0).trans rfl) | ((with_reducible refine gate_callee (f := 9) rfl ?_); refine goesL_ (some 14) rfl rfl Try.func9 (by kernel_rfl) rfl #[.slice A0 l0.length c0, .agg #[.string a1_0, .string a1_1, .string a1_2, .int .i64 a1_3, .int .i64 a1_4, .int .i64 a1_5, .int .i64 a1_6, .bool a1_7, .int .i64 a1_8, .slice A1_9 l1_9.length c1_9, .slice A1_10 l1_10.length c1_10, .slice A1_11 l1_11.length c1_11, .slice A1_12 l1_12.length c1_12, .string a1_13, .int .i64 a1_14, .int .i64 a1_15, .int .i64 a1_16, .slice A1_17 l1_17.length c1_17, .slice A1_18 l1_18.length c1_18, .slice A1_19 l1_19.length c1_19, .slice A1_20 l1_20.length c1_20, .slice A1_21 l1_21.length c1_21, .slice A1_22 l1_22.length c1_22, .int .i64 a1_23, .bool a1_24, .int .i64 a1_25, .int .i64 a1_26, .int .i64 a1_27, .slice A1_28 l1_28.length c1_28, .int .i64 a1_29, .string a1_30, .string a1_31], .bool a4] rfl (by (try simp only [List.map_toArray, List.map_cons, List.map_nil]); first | done | rfl | (simp only [List.length_drop, List.length_take]; rfl)) ?_; (with_reducible refine (netpolicy_Isolated.calls k _ _ _ _ _ _ _ _ _ _ _ _ _ _ _ _ _ _ _ _ _ _ _ _ _ _ _ _ _ _ _ _ _ _ _ _ _ _ _ _ _ _ _ _ _ _ _ _ _ _ _ _ _ _ _ _ _ _ _ _ ?side1 ?side2 ?side3 ?side4 ?side5 ?side6 ?side7 ?side8 ?side9 ?side10 ?side11 ?side12 ?side13 ?side14 ?side15 ?side16 ?side17 ?side18 ?side19 ?side20 ?side21 ?side22 ?side23 ?side24 A6.out).mono ?_); (case side1 => exact s_D HR0.out HB.out); (case side2 => exact HC0.out); (case side3 => exact s_D HR1_9.out HB.out); (case side4 => exact HC1_9.out); (case side5 => exact s_D HR1_10.out HB.out); (case side6 => exact HC1_10.out); (case side7 => exact s_D HR1_11.out HB.out); (case side8 => exact HC1_11.out); (case side9 => exact s_D HR1_12.out HB.out); (case side10 => exact HC1_12.out); (case side11 => exact s_D HR1_17.out HB.out); (case side12 => exact HC1_17.out); (case side13 => exact s_D HR1_18.out HB.out); (case side14 => exact HC1_18.out); (case side15 => exact s_D HR1_19.out HB.out); (case side16 => exact HC1_19.out); (case side17 => exact s_D HR1_20.out HB.out); (case side18 => exact HC1_20.out); (case side19 => exact s_D HR1_21.out HB.out); (case side20 => exact HC1_21.out); (case side21 => exact s_D HR1_22.out HB.out); (case side22 => exact HC1_22.out); (case side23 => exact s_D HR1_28.out HB.out); (case side24 => exact HC1_28.out); rintro e w27 ⟨rfl, hb⟩; refine ⟨_, rfl, ?_⟩; replace BK208 := s_a (blk_below (s_k BK208.out) hb); replace BK209 := s_a (blk_below (s_k BK209.out) hb); replace BK210 := s_a (blk_below (s_k BK210.out) hb); replace BK211 := s_a (blk_below (s_k BK211.out) hb); replace HB := s_a (below_step (by exact s_b HB.out) hb); (try clear hb)))
  go_ret
  exact ⟨by first | rfl | (simp [errW_none, errW_some] <;> rfl) | (simp [*, errW_none, errW_some] <;> rfl), by exact s_b HB.out⟩
end Go.Proofs.Ytkdikhonafbgdaa.Q
