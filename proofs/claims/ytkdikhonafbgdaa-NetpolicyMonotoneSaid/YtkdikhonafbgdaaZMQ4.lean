/- Part of a claim: see its row. Conditions: stated at each. -/
import Derived.Test.YtkdikhonafbgdaaZMQ0
import Derived.Test.YtkdikhonafbgdaaZMQ3
namespace Go.Proofs.Ytkdikhonafbgdaa.Q
open Go.RowKit Go.Proofs.YtkdikhonafbgdaaW.PrintWords Go.Proofs.YtkdikhonafbgdaaW.PrintLast Go.Proofs.YtkdikhonafbgdaaW.PrintMore Go.Proofs.Ytkdikhonafbgdaa.Sh
attribute [local go_sem] max2_int min2_int max_two min_two max_three min_three max_four min_four
set_option linter.unusedVariables false
set_option linter.unusedSimpArgs false
def slices_Index_int_int.l0 : Nat → List Int → Int → Int → Int → Option (Int)
 | 0, _, _, _, _ => none
 | k + 1, x0, x1, x7, x8 => if x8 < x7 then (if 0 ≤ x8 then (if x8 < (x0.length : Int) then (if x1 = (rd x0 x8) then (some x8) else (slices_Index_int_int.l0 k x0 x1 x7 (wrap64 (x8 + 1)))) else (none)) else (none)) else (some (-1))
def slices_Index_int_int.f (k : Nat) (l0 : List Int) (a1 : Int) : Option (Int) := slices_Index_int_int.l0 k l0 a1 (l0.length : Int) 0
theorem slices_Index_int_int.mono_l : ∀ k, (∀ y0 y1 y2 y3, LeO (slices_Index_int_int.l0 k y0 y1 y2 y3) (slices_Index_int_int.l0 (k + 1) y0 y1 y2 y3))
 | 0 => fun _ _ _ _ r h => by simp [slices_Index_int_int.l0] at h
 | k + 1 => by
  have ih0 := slices_Index_int_int.mono_l k
  ·intro y0 y1 y2 y3
   unfold slices_Index_int_int.l0
   repeat' first
   | (with_reducible exact ih0 _ _ _ _)
   | (with_reducible exact LeO.refl _)
   | (with_reducible exact LeO.none _)
   | (with_reducible refine LeO.ite ?_ ?_)
   | (with_reducible refine LeO.bind ?_ (fun _ => ?_))
   | exact ih0 _ _ _ _
   | exact LeO.none _
   | refine LeO.ite ?_ ?_
   | refine LeO.bind ?_ (fun _ => ?_)
theorem slices_Index_int_int.mono : ∀ a0 a1 k, LeO (slices_Index_int_int.f k a0 a1) (slices_Index_int_int.f (k + 1) a0 a1) := by
 intro a0 a1 k
 have ih0 := slices_Index_int_int.mono_l k
 unfold slices_Index_int_int.f
 repeat' first
   | (with_reducible exact ih0 _ _ _ _)
   | (with_reducible exact LeO.refl _)
   | (with_reducible exact LeO.none _)
   | (with_reducible refine LeO.ite ?_ ?_)
   | (with_reducible refine LeO.bind ?_ (fun _ => ?_))
   | exact ih0 _ _ _ _
   | exact LeO.none _
   | refine LeO.ite ?_ ?_
   | refine LeO.bind ?_ (fun _ => ?_)
set_option maxHeartbeats 8000000 in
set_option maxRecDepth 100000 in
theorem slices_Index_int_int.calls (k : Nat) (A0 : Option Addr) (c0 : Nat) (l0 : List Int) (a1 : Int) (r : Int) (w : World) (hr0 : Kd.C (Kd.int .i64) w A0 l0.length l0) (hc0 : l0.length ≤ c0) (h : slices_Index_int_int.f k l0 a1 = some r) :
  Calls Try.prog 48 #[.slice A0 l0.length c0, .int .i64 a1] w fun e w' => e = .returned (.int .i64 r) ∧ Drawn0 w w' := by
 have HR0 := s_a hr0
 have HC0 := s_a hc0
 clear hr0 hc0
 have H : (slices_Index_int_int.l0 k l0 a1 (l0.length : Int) 0) = some r := h
 clear h
 have H' := s_a H
 clear H
 go_enter Try.func48, Try.ntmps48
 go_wp2
 go_loopg [8] k (fun kq v8 w' => ∃ (x8_1 : Int), v8 = .int .i64 x8_1 ∧ Aside0 (slices_Index_int_int.l0 kq l0 a1 (l0.length : Int) x8_1 = some r) ∧ Aside0 (kq ≤ k) ∧ Drawn0 w w')
 case atStart => exact ⟨(0), (by first | rfl | (simp; done) | (simp [*]; done)), H', ⟨Nat.le_refl _⟩, by repeat (first | exact Drawn0.refl _ | apply Drawn0.step)⟩
 case round =>
  clear H'
  try clear p2
  obtain ⟨x8_1, rfl, HA, HK1, ⟨m1, rfl⟩⟩ := hrel
  cases gk with
  | zero => exact absurd HA.out (by simp [slices_Index_int_int.l0])
  | succ k1 =>
   have H := HA.out
   clear HA
   simp only [slices_Index_int_int.l0] at H
   by_cases c3 : x8_1 < (l0.length : Int)
   ·rw [if_pos c3] at H
    have c3b0 : decide (x8_1 < (l0.length : Int)) = true := decide_eq_true c3
    clear c3
    by_cases c4 : 0 ≤ x8_1
    ·rw [if_pos c4] at H
     have c4b0 : decide (0 ≤ x8_1) = true := decide_eq_true c4
     clear c4
     by_cases c5 : x8_1 < (l0.length : Int)
     ·rw [if_pos c5] at H
      have c5b0 : decide (x8_1 < (l0.length : Int)) = true := decide_eq_true c5
      clear c5
      by_cases c6 : a1 = (rd l0 x8_1)
      ·rw [if_pos c6] at H
       have c6b0 : (a1 == (rd l0 x8_1)) = true := beq_iff_eq.mpr c6
       have c6b1 : (a1 != (rd l0 x8_1)) = false := bne_eq_false_iff_eq.mpr c6
       clear c6
       obtain rfl := Option.some.inj H
       have p142 : 0 ≤ (x8_1 : Int) := of_decide_eq_true (by first | (with_reducible assumption) | assumption)
       have q142 : x8_1 < (l0.length : Int) := of_decide_eq_true (by first | (with_reducible assumption) | assumption)
       obtain ⟨ad142, e142, hx142_0⟩ := Kd.at_int HR0.out x8_1 p142 q142
       cases e142
       replace p142 := eq_true p142
       replace q142 := eq_true q142
       go_wp2
       go_ret
       exact ⟨by first | rfl | (simp; done) | (simp [*]; done), by repeat (first | exact Drawn0.refl _ | apply Drawn0.step)⟩
      ·rw [if_neg c6] at H
       have c6b0 : (a1 == (rd l0 x8_1)) = false := beq_eq_false_iff_ne.mpr c6
       have c6b1 : (a1 != (rd l0 x8_1)) = true := bne_iff_ne.mpr c6
       have H' := s_a H
       clear H
       have p142 : 0 ≤ (x8_1 : Int) := of_decide_eq_true (by first | (with_reducible assumption) | assumption)
       have q142 : x8_1 < (l0.length : Int) := of_decide_eq_true (by first | (with_reducible assumption) | assumption)
       obtain ⟨ad142, e142, hx142_0⟩ := Kd.at_int HR0.out x8_1 p142 q142
       cases e142
       replace p142 := eq_true p142
       replace q142 := eq_true q142
       go_wp2
       go_roundg k1
       case measure => have := HK1.out; omega
       case rel => exact ⟨(wrap64 (x8_1 + 1)), (by first | rfl | (simp; done) | (simp [*]; done)), H', ⟨by have := HK1.out; omega⟩, by repeat (first | exact Drawn0.refl _ | apply Drawn0.step)⟩
     ·rw [if_neg c5] at H
      exact absurd H (by simp)
    ·rw [if_neg c4] at H
     exact absurd H (by simp)
   ·rw [if_neg c3] at H
    have c3b0 : decide (x8_1 < (l0.length : Int)) = false := decide_eq_false c3
    clear c3
    obtain rfl := Option.some.inj H
    go_wp2
    go_ret
    exact ⟨by first | rfl | (simp; done) | (simp [*]; done), by repeat (first | exact Drawn0.refl _ | apply Drawn0.step)⟩
def slices_Contains_int_int.f (k : Nat) (l0 : List Int) (a1 : Int) : Option (Bool) := (slices_Index_int_int.f k l0 a1).bind fun t143 => (some (decide (t143 ≥ 0)))
theorem slices_Contains_int_int.mono : ∀ a0 a1 k, LeO (slices_Contains_int_int.f k a0 a1) (slices_Contains_int_int.f (k + 1) a0 a1) := by
 intro a0 a1 k
 unfold slices_Contains_int_int.f
 repeat' first
   | (with_reducible exact slices_Index_int_int.mono _ _ _)
   | (with_reducible exact LeO.refl _)
   | (with_reducible exact LeO.none _)
   | (with_reducible refine LeO.ite ?_ ?_)
   | (with_reducible refine LeO.bind ?_ (fun _ => ?_))
   | exact slices_Index_int_int.mono _ _ _
   | exact LeO.none _
   | refine LeO.ite ?_ ?_
   | refine LeO.bind ?_ (fun _ => ?_)
set_option maxHeartbeats 8000000 in
set_option maxRecDepth 100000 in
theorem slices_Contains_int_int.calls (k : Nat) (A0 : Option Addr) (c0 : Nat) (l0 : List Int) (a1 : Int) (r : Bool) (w : World) (hr0 : Kd.C (Kd.int .i64) w A0 l0.length l0) (hc0 : l0.length ≤ c0) (h : slices_Contains_int_int.f k l0 a1 = some r) :
  Calls Try.prog 42 #[.slice A0 l0.length c0, .int .i64 a1] w fun e w' => e = .returned (.bool r) ∧ Drawn0 w w' := by
 have HR0 := s_a hr0
 have HC0 := s_a hc0
 clear hr0 hc0
 have H : ((slices_Index_int_int.f k l0 a1).bind fun t143 => (some (decide (t143 ≥ 0)))) = some r := h
 clear h
 replace H := Option.bind_eq_some_iff.mp H
 obtain ⟨t143, A30, H⟩ := H
 replace H : (some (decide (t143 ≥ 0))) = some r := H
 have A3 := s_a A30
 clear A30
 obtain rfl := Option.some.inj H
 go_enter Try.func42, Try.ntmps42
 go_wp2_with (first | ((with_reducible refine gate_callee (f := 48) rfl ?_); refine goesL_ (some 7) rfl rfl Try.func48 (by kernel_rfl) rfl #[.slice A0 l0.length c0, .int .i64 a1] rfl (by (try simp only [List.map_toArray, List.map_cons, List.map_nil]); first | done | rfl | (simp only [List.length_drop, List.length_take]; rfl)) ?_; (with_reducible refine (slices_Index_int_int.calls k _ _ _ _ _ _ ?side1 ?side2 A3.out).mono ?_); (case side1 => exact s_C HR0.out); (case side2 => exact HC0.out); rintro e w' ⟨rfl, ⟨nd, rfl⟩⟩; refine ⟨_, rfl, ?_⟩))
 go_ret
 exact ⟨by first | rfl | (simp; done) | (simp [*]; done), by repeat (first | exact Drawn0.refl _ | apply Drawn0.step)⟩
def api_Peer_47_c40.l0 : Nat → List (S64) → Int → Int → ByteArray → ByteArray → ByteArray → Int → Int → Int → Int → Bool → Int → List (S72) → List (S110) → List ByteArray → List (S112) → ByteArray → Int → Int → Int → List (S117) → List (S74) → List (S119) → List (S121) → List (S123) → List (S125) → Int → Bool → Int → Int → Int → List (S127) → Int → ByteArray → ByteArray → Option (Int)
 | 0, _, _, _, _, _, _, _, _, _, _, _, _, _, _, _, _, _, _, _, _, _, _, _, _, _, _, _, _, _, _, _, _, _, _, _ => none
 | k + 1, x0, x7, x8, x149000, x149001, x149002, x149003, x149004, x149005, x149006, x149007, x149008, x149009, x149010, x149011, x149012, x149013, x149014, x149015, x149016, x149017, x149018, x149019, x149020, x149021, x149022, x149023, x149024, x149025, x149026, x149027, x149028, x149029, x149030, x149031 => if x8 < x7 then (if 0 ≤ x8 then (if x8 < (x0.length : Int) then ((netpolicy_admits_1.f k ((rd_T64 x0 x8).f0) ((rd_T64 x0 x8).f1) x149000 x149001 x149002 x149003 x149004 x149005 x149006 x149007 x149008 x149009 x149010 x149011 x149012 x149013 x149014 x149015 x149016 x149017 x149018 x149019 x149020 x149021 x149022 x149023 x149024 x149025 x149026 x149027 x149028 x149029 x149030 x149031).bind fun t150 => (if t150 = true then (some x8) else (api_Peer_47_c40.l0 k x0 x7 (wrap64 (x8 + 1)) x149000 x149001 x149002 x149003 x149004 x149005 x149006 x149007 x149008 x149009 x149010 x149011 x149012 x149013 x149014 x149015 x149016 x149017 x149018 x149019 x149020 x149021 x149022 x149023 x149024 x149025 x149026 x149027 x149028 x149029 x149030 x149031))) else (none)) else (none)) else (some (-1))
def api_Peer_47_c40.f (k : Nat) (l0 : List (S64)) (a200_0 : ByteArray) (a200_1 : ByteArray) (a200_2 : ByteArray) (a200_3 : Int) (a200_4 : Int) (a200_5 : Int) (a200_6 : Int) (a200_7 : Bool) (a200_8 : Int) (l200_9 : List (S72)) (l200_10 : List (S110)) (l200_11 : List ByteArray) (l200_12 : List (S112)) (a200_13 : ByteArray) (a200_14 : Int) (a200_15 : Int) (a200_16 : Int) (l200_17 : List (S117)) (l200_18 : List (S74)) (l200_19 : List (S119)) (l200_20 : List (S121)) (l200_21 : List (S123)) (l200_22 : List (S125)) (a200_23 : Int) (a200_24 : Bool) (a200_25 : Int) (a200_26 : Int) (a200_27 : Int) (l200_28 : List (S127)) (a200_29 : Int) (a200_30 : ByteArray) (a200_31 : ByteArray) : Option (Int) := api_Peer_47_c40.l0 k l0 (l0.length : Int) 0 a200_0 a200_1 a200_2 a200_3 a200_4 a200_5 a200_6 a200_7 a200_8 l200_9 l200_10 l200_11 l200_12 a200_13 a200_14 a200_15 a200_16 l200_17 l200_18 l200_19 l200_20 l200_21 l200_22 a200_23 a200_24 a200_25 a200_26 a200_27 l200_28 a200_29 a200_30 a200_31
theorem api_Peer_47_c40.mono_l : ∀ k, (∀ y0 y1 y2 y3 y4 y5 y6 y7 y8 y9 y10 y11 y12 y13 y14 y15 y16 y17 y18 y19 y20 y21 y22 y23 y24 y25 y26 y27 y28 y29 y30 y31 y32 y33 y34, LeO (api_Peer_47_c40.l0 k y0 y1 y2 y3 y4 y5 y6 y7 y8 y9 y10 y11 y12 y13 y14 y15 y16 y17 y18 y19 y20 y21 y22 y23 y24 y25 y26 y27 y28 y29 y30 y31 y32 y33 y34) (api_Peer_47_c40.l0 (k + 1) y0 y1 y2 y3 y4 y5 y6 y7 y8 y9 y10 y11 y12 y13 y14 y15 y16 y17 y18 y19 y20 y21 y22 y23 y24 y25 y26 y27 y28 y29 y30 y31 y32 y33 y34))
 | 0 => fun _ _ _ _ _ _ _ _ _ _ _ _ _ _ _ _ _ _ _ _ _ _ _ _ _ _ _ _ _ _ _ _ _ _ _ r h => by simp [api_Peer_47_c40.l0] at h
 | k + 1 => by
  have ih0 := api_Peer_47_c40.mono_l k
  ·intro y0 y1 y2 y3 y4 y5 y6 y7 y8 y9 y10 y11 y12 y13 y14 y15 y16 y17 y18 y19 y20 y21 y22 y23 y24 y25 y26 y27 y28 y29 y30 y31 y32 y33 y34
   unfold api_Peer_47_c40.l0
   repeat' first
   | (with_reducible exact ih0 _ _ _ _ _ _ _ _ _ _ _ _ _ _ _ _ _ _ _ _ _ _ _ _ _ _ _ _ _ _ _ _ _ _ _)
   | (with_reducible exact netpolicy_admits_1.mono _ _ _ _ _ _ _ _ _ _ _ _ _ _ _ _ _ _ _ _ _ _ _ _ _ _ _ _ _ _ _ _ _ _ _)
   | (with_reducible exact LeO.refl _)
   | (with_reducible exact LeO.none _)
   | (with_reducible refine LeO.ite ?_ ?_)
   | (with_reducible refine LeO.bind ?_ (fun _ => ?_))
   | exact ih0 _ _ _ _ _ _ _ _ _ _ _ _ _ _ _ _ _ _ _ _ _ _ _ _ _ _ _ _ _ _ _ _ _ _ _
   | exact netpolicy_admits_1.mono _ _ _ _ _ _ _ _ _ _ _ _ _ _ _ _ _ _ _ _ _ _ _ _ _ _ _ _ _ _ _ _ _ _ _
   | exact LeO.none _
   | refine LeO.ite ?_ ?_
   | refine LeO.bind ?_ (fun _ => ?_)
theorem api_Peer_47_c40.mono : ∀ a0 a1 a2 a3 a4 a5 a6 a7 a8 a9 a10 a11 a12 a13 a14 a15 a16 a17 a18 a19 a20 a21 a22 a23 a24 a25 a26 a27 a28 a29 a30 a31 a32 k, LeO (api_Peer_47_c40.f k a0 a1 a2 a3 a4 a5 a6 a7 a8 a9 a10 a11 a12 a13 a14 a15 a16 a17 a18 a19 a20 a21 a22 a23 a24 a25 a26 a27 a28 a29 a30 a31 a32) (api_Peer_47_c40.f (k + 1) a0 a1 a2 a3 a4 a5 a6 a7 a8 a9 a10 a11 a12 a13 a14 a15 a16 a17 a18 a19 a20 a21 a22 a23 a24 a25 a26 a27 a28 a29 a30 a31 a32) := by
 intro a0 a1 a2 a3 a4 a5 a6 a7 a8 a9 a10 a11 a12 a13 a14 a15 a16 a17 a18 a19 a20 a21 a22 a23 a24 a25 a26 a27 a28 a29 a30 a31 a32 k
 have ih0 := api_Peer_47_c40.mono_l k
 unfold api_Peer_47_c40.f
 repeat' first
   | (with_reducible exact ih0 _ _ _ _ _ _ _ _ _ _ _ _ _ _ _ _ _ _ _ _ _ _ _ _ _ _ _ _ _ _ _ _ _ _ _)
   | (with_reducible exact netpolicy_admits_1.mono _ _ _ _ _ _ _ _ _ _ _ _ _ _ _ _ _ _ _ _ _ _ _ _ _ _ _ _ _ _ _ _ _ _ _)
   | (with_reducible exact LeO.refl _)
   | (with_reducible exact LeO.none _)
   | (with_reducible refine LeO.ite ?_ ?_)
   | (with_reducible refine LeO.bind ?_ (fun _ => ?_))
   | exact ih0 _ _ _ _ _ _ _ _ _ _ _ _ _ _ _ _ _ _ _ _ _ _ _ _ _ _ _ _ _ _ _ _ _ _ _
   | exact netpolicy_admits_1.mono _ _ _ _ _ _ _ _ _ _ _ _ _ _ _ _ _ _ _ _ _ _ _ _ _ _ _ _ _ _ _ _ _ _ _
   | exact LeO.none _
   | refine LeO.ite ?_ ?_
   | refine LeO.bind ?_ (fun _ => ?_)
set_option maxHeartbeats 8000000 in
set_option maxRecDepth 100000 in
theorem api_Peer_47_c40.calls (k : Nat) (A0 : Option Addr) (c0 : Nat) (l0 : List (S64)) (g200_ : Nat) (a200_0 : ByteArray) (a200_1 : ByteArray) (a200_2 : ByteArray) (a200_3 : Int) (a200_4 : Int) (a200_5 : Int) (a200_6 : Int) (a200_7 : Bool) (a200_8 : Int) (A200_9 : Option Addr) (c200_9 : Nat) (l200_9 : List (S72)) (A200_10 : Option Addr) (c200_10 : Nat) (l200_10 : List (S110)) (A200_11 : Option Addr) (c200_11 : Nat) (l200_11 : List ByteArray) (A200_12 : Option Addr) (c200_12 : Nat) (l200_12 : List (S112)) (a200_13 : ByteArray) (a200_14 : Int) (a200_15 : Int) (a200_16 : Int) (A200_17 : Option Addr) (c200_17 : Nat) (l200_17 : List (S117)) (A200_18 : Option Addr) (c200_18 : Nat) (l200_18 : List (S74)) (A200_19 : Option Addr) (c200_19 : Nat) (l200_19 : List (S119)) (A200_20 : Option Addr) (c200_20 : Nat) (l200_20 : List (S121)) (A200_21 : Option Addr) (c200_21 : Nat) (l200_21 : List (S123)) (A200_22 : Option Addr) (c200_22 : Nat) (l200_22 : List (S125)) (a200_23 : Int) (a200_24 : Bool) (a200_25 : Int) (a200_26 : Int) (a200_27 : Int) (A200_28 : Option Addr) (c200_28 : Nat) (l200_28 : List (S127)) (a200_29 : Int) (a200_30 : ByteArray) (a200_31 : ByteArray) (r : Int) (w : World) (hr0 : Kd.C k64 w A0 l0.length l0) (hc0 : l0.length ≤ c0) (hr200_9 : Kd.C k72 w A200_9 l200_9.length l200_9) (hc200_9 : l200_9.length ≤ c200_9) (hr200_10 : Kd.C k110 w A200_10 l200_10.length l200_10) (hc200_10 : l200_10.length ≤ c200_10) (hr200_11 : Kd.C Kd.string w A200_11 l200_11.length l200_11) (hc200_11 : l200_11.length ≤ c200_11) (hr200_12 : Kd.C k112 w A200_12 l200_12.length l200_12) (hc200_12 : l200_12.length ≤ c200_12) (hr200_17 : Kd.C k117 w A200_17 l200_17.length l200_17) (hc200_17 : l200_17.length ≤ c200_17) (hr200_18 : Kd.C k74 w A200_18 l200_18.length l200_18) (hc200_18 : l200_18.length ≤ c200_18) (hr200_19 : Kd.C k119 w A200_19 l200_19.length l200_19) (hc200_19 : l200_19.length ≤ c200_19) (hr200_20 : Kd.C k121 w A200_20 l200_20.length l200_20) (hc200_20 : l200_20.length ≤ c200_20) (hr200_21 : Kd.C k123 w A200_21 l200_21.length l200_21) (hc200_21 : l200_21.length ≤ c200_21) (hr200_22 : Kd.C k125 w A200_22 l200_22.length l200_22) (hc200_22 : l200_22.length ≤ c200_22) (hr200_28 : Kd.C k127 w A200_28 l200_28.length l200_28) (hc200_28 : l200_28.length ≤ c200_28) (hbx200 : w.heap[g200_]? = some (.cells #[.string a200_0, .string a200_1, .string a200_2, .int .i64 a200_3, .int .i64 a200_4, .int .i64 a200_5, .int .i64 a200_6, .bool a200_7, .int .i64 a200_8, .slice A200_9 l200_9.length c200_9, .slice A200_10 l200_10.length c200_10, .slice A200_11 l200_11.length c200_11, .slice A200_12 l200_12.length c200_12, .string a200_13, .int .i64 a200_14, .int .i64 a200_15, .int .i64 a200_16, .slice A200_17 l200_17.length c200_17, .slice A200_18 l200_18.length c200_18, .slice A200_19 l200_19.length c200_19, .slice A200_20 l200_20.length c200_20, .slice A200_21 l200_21.length c200_21, .slice A200_22 l200_22.length c200_22, .int .i64 a200_23, .bool a200_24, .int .i64 a200_25, .int .i64 a200_26, .int .i64 a200_27, .slice A200_28 l200_28.length c200_28, .int .i64 a200_29, .string a200_30, .string a200_31] 41 (0, 0))) (h : api_Peer_47_c40.f k l0 a200_0 a200_1 a200_2 a200_3 a200_4 a200_5 a200_6 a200_7 a200_8 l200_9 l200_10 l200_11 l200_12 a200_13 a200_14 a200_15 a200_16 l200_17 l200_18 l200_19 l200_20 l200_21 l200_22 a200_23 a200_24 a200_25 a200_26 a200_27 l200_28 a200_29 a200_30 a200_31 = some r) :
  Calls Try.prog 47 #[.slice A0 l0.length c0, .func (.func 40) #[] #[.pointer (some ⟨g200_, 0, none⟩)]] w fun e w' => e = .returned (.int .i64 r) ∧ Below w.heap.size w w' := by
 have hu64 := Try.underlying64
 have HR0 := s_a hr0
 have HC0 := s_a hc0
 clear hr0 hc0
 have HR200_9 := s_a hr200_9
 have HC200_9 := s_a hc200_9
 clear hr200_9 hc200_9
 have HR200_10 := s_a hr200_10
 have HC200_10 := s_a hc200_10
 clear hr200_10 hc200_10
 have HR200_11 := s_a hr200_11
 have HC200_11 := s_a hc200_11
 clear hr200_11 hc200_11
 have HR200_12 := s_a hr200_12
 have HC200_12 := s_a hc200_12
 clear hr200_12 hc200_12
 have HR200_17 := s_a hr200_17
 have HC200_17 := s_a hc200_17
 clear hr200_17 hc200_17
 have HR200_18 := s_a hr200_18
 have HC200_18 := s_a hc200_18
 clear hr200_18 hc200_18
 have HR200_19 := s_a hr200_19
 have HC200_19 := s_a hc200_19
 clear hr200_19 hc200_19
 have HR200_20 := s_a hr200_20
 have HC200_20 := s_a hc200_20
 clear hr200_20 hc200_20
 have HR200_21 := s_a hr200_21
 have HC200_21 := s_a hc200_21
 clear hr200_21 hc200_21
 have HR200_22 := s_a hr200_22
 have HC200_22 := s_a hc200_22
 clear hr200_22 hc200_22
 have HR200_28 := s_a hr200_28
 have HC200_28 := s_a hc200_28
 clear hr200_28 hc200_28
 have BK148 := s_a hbx200
 clear hbx200
 have HB := s_a (Below.refl w.heap.size w)
 have H : (api_Peer_47_c40.l0 k l0 (l0.length : Int) 0 a200_0 a200_1 a200_2 a200_3 a200_4 a200_5 a200_6 a200_7 a200_8 l200_9 l200_10 l200_11 l200_12 a200_13 a200_14 a200_15 a200_16 l200_17 l200_18 l200_19 l200_20 l200_21 l200_22 a200_23 a200_24 a200_25 a200_26 a200_27 l200_28 a200_29 a200_30 a200_31) = some r := h
 clear h
 have H' := s_a H
 clear H
 go_enter Try.func47, Try.ntmps47
 go_wp2
 go_loopg [8] k (fun kq v8 w' => ∃ (x8_1 : Int), v8 = .int .i64 x8_1 ∧ Aside0 (api_Peer_47_c40.l0 kq l0 (l0.length : Int) x8_1 a200_0 a200_1 a200_2 a200_3 a200_4 a200_5 a200_6 a200_7 a200_8 l200_9 l200_10 l200_11 l200_12 a200_13 a200_14 a200_15 a200_16 l200_17 l200_18 l200_19 l200_20 l200_21 l200_22 a200_23 a200_24 a200_25 a200_26 a200_27 l200_28 a200_29 a200_30 a200_31 = some r) ∧ Aside0 (kq ≤ k) ∧ Aside0 (w'.heap[g200_]? = some (.cells #[.string a200_0, .string a200_1, .string a200_2, .int .i64 a200_3, .int .i64 a200_4, .int .i64 a200_5, .int .i64 a200_6, .bool a200_7, .int .i64 a200_8, (.slice A200_9 l200_9.length c200_9), (.slice A200_10 l200_10.length c200_10), (.slice A200_11 l200_11.length c200_11), (.slice A200_12 l200_12.length c200_12), .string a200_13, .int .i64 a200_14, .int .i64 a200_15, .int .i64 a200_16, (.slice A200_17 l200_17.length c200_17), (.slice A200_18 l200_18.length c200_18), (.slice A200_19 l200_19.length c200_19), (.slice A200_20 l200_20.length c200_20), (.slice A200_21 l200_21.length c200_21), (.slice A200_22 l200_22.length c200_22), .int .i64 a200_23, .bool a200_24, .int .i64 a200_25, .int .i64 a200_26, .int .i64 a200_27, (.slice A200_28 l200_28.length c200_28), .int .i64 a200_29, .string a200_30, .string a200_31] 41 (0, 0))) ∧ Aside0 (Below w.heap.size w w'))
 case atStart => exact ⟨(0), (by first | rfl | (simp; done) | (simp [*]; done)), H', ⟨Nat.le_refl _⟩, ⟨by exact s_k BK148.out⟩, ⟨by exact s_b HB.out⟩⟩
 case round =>
  clear H'
  try clear c2
  try clear p2
  obtain ⟨x8_1, rfl, HA, HK1, BK148, HB⟩ := hrel
  cases gk with
  | zero => exact absurd HA.out (by simp [api_Peer_47_c40.l0])
  | succ k1 =>
   have H := HA.out
   clear HA
   simp only [api_Peer_47_c40.l0] at H
   by_cases c3 : x8_1 < (l0.length : Int)
   ·rw [if_pos c3] at H
    have c3b0 : decide (x8_1 < (l0.length : Int)) = true := decide_eq_true c3
    clear c3
    by_cases c4 : 0 ≤ x8_1
    ·rw [if_pos c4] at H
     have c4b0 : decide (0 ≤ x8_1) = true := decide_eq_true c4
     clear c4
     by_cases c5 : x8_1 < (l0.length : Int)
     ·rw [if_pos c5] at H
      have c5b0 : decide (x8_1 < (l0.length : Int)) = true := decide_eq_true c5
      clear c5
      replace H := Option.bind_eq_some_iff.mp H
      obtain ⟨t150, A60, H⟩ := H
      (try dsimp only at H)
      have A6 := s_a A60
      clear A60
      by_cases c7 : t150 = true
      ·subst c7
       (try rw [if_pos rfl] at H)
       obtain rfl := Option.some.inj H
       have p149 : 0 ≤ (x8_1 : Int) := of_decide_eq_true (by first | (with_reducible assumption) | assumption)
       have q149 : x8_1 < (l0.length : Int) := of_decide_eq_true (by first | (with_reducible assumption) | assumption)
       obtain ⟨ad149, A149_1, c149_1, e149, hx149_0, hx149_1, hl149_1, hi149_1⟩ := at_T64 HR0.out x8_1 p149 q149
       cases e149
       replace hx149_0 := s_m HB.out hx149_0
       replace hx149_1 := s_m HB.out hx149_1
       have HR149_1 := s_a hi149_1
       have HC149_1 := s_a hl149_1
       clear hi149_1 hl149_1
       replace p149 := eq_true p149
       replace q149 := eq_true q149
       go_wp2_with (first | (go_at_call 40; (with_reducible refine (netpolicy_admits_1.calls k1 _ _ _ _ g200_ a200_0 a200_1 a200_2 a200_3 a200_4 a200_5 a200_6 a200_7 a200_8 A200_9 c200_9 l200_9 A200_10 c200_10 l200_10 A200_11 c200_11 l200_11 A200_12 c200_12 l200_12 a200_13 a200_14 a200_15 a200_16 A200_17 c200_17 l200_17 A200_18 c200_18 l200_18 A200_19 c200_19 l200_19 A200_20 c200_20 l200_20 A200_21 c200_21 l200_21 A200_22 c200_22 l200_22 a200_23 a200_24 a200_25 a200_26 a200_27 A200_28 c200_28 l200_28 a200_29 a200_30 a200_31 _ _ ?side1 ?side2 ?side3 ?side4 ?side5 ?side6 ?side7 ?side8 ?side9 ?side10 ?side11 ?side12 ?side13 ?side14 ?side15 ?side16 ?side17 ?side18 ?side19 ?side20 ?side21 ?side22 ?side23 ?side24 ?side25 A6.out).mono ?_); (case side1 => exact s_D HR149_1.out HB.out); (case side2 => exact HC149_1.out); (case side3 => exact s_D HR200_9.out HB.out); (case side4 => exact HC200_9.out); (case side5 => exact s_D HR200_10.out HB.out); (case side6 => exact HC200_10.out); (case side7 => exact s_D HR200_11.out HB.out); (case side8 => exact HC200_11.out); (case side9 => exact s_D HR200_12.out HB.out); (case side10 => exact HC200_12.out); (case side11 => exact s_D HR200_17.out HB.out); (case side12 => exact HC200_17.out); (case side13 => exact s_D HR200_18.out HB.out); (case side14 => exact HC200_18.out); (case side15 => exact s_D HR200_19.out HB.out); (case side16 => exact HC200_19.out); (case side17 => exact s_D HR200_20.out HB.out); (case side18 => exact HC200_20.out); (case side19 => exact s_D HR200_21.out HB.out); (case side20 => exact HC200_21.out); (case side21 => exact s_D HR200_22.out HB.out); (case side22 => exact HC200_22.out); (case side23 => exact s_D HR200_28.out HB.out); (case side24 => exact HC200_28.out); (case side25 => exact (by exact s_k BK148.out)); rintro e w8 ⟨rfl, hb⟩; (try clear A6); replace BK148 := s_a (blk_below (s_k BK148.out) hb); replace HB := s_a (below_step (by exact s_b HB.out) hb); (try clear hb)))
       go_ret
       exact ⟨by first | rfl | (simp [errW_none, errW_some] <;> rfl) | (simp [*, errW_none, errW_some] <;> rfl), by exact s_b HB.out⟩
      ·replace c7 := Bool.eq_false_iff.mpr c7
       subst c7
       (try rw [if_neg (show ¬ (false = true) by decide)] at H)
       have H' := s_a H
       clear H
       have p149 : 0 ≤ (x8_1 : Int) := of_decide_eq_true (by first | (with_reducible assumption) | assumption)
       have q149 : x8_1 < (l0.length : Int) := of_decide_eq_true (by first | (with_reducible assumption) | assumption)
       obtain ⟨ad149, A149_1, c149_1, e149, hx149_0, hx149_1, hl149_1, hi149_1⟩ := at_T64 HR0.out x8_1 p149 q149
       cases e149
       replace hx149_0 := s_m HB.out hx149_0
       replace hx149_1 := s_m HB.out hx149_1
       have HR149_1 := s_a hi149_1
       have HC149_1 := s_a hl149_1
       clear hi149_1 hl149_1
       replace p149 := eq_true p149
       replace q149 := eq_true q149
       go_wp2_with (first | (go_at_call 40; (with_reducible refine (netpolicy_admits_1.calls k1 _ _ _ _ g200_ a200_0 a200_1 a200_2 a200_3 a200_4 a200_5 a200_6 a200_7 a200_8 A200_9 c200_9 l200_9 A200_10 c200_10 l200_10 A200_11 c200_11 l200_11 A200_12 c200_12 l200_12 a200_13 a200_14 a200_15 a200_16 A200_17 c200_17 l200_17 A200_18 c200_18 l200_18 A200_19 c200_19 l200_19 A200_20 c200_20 l200_20 A200_21 c200_21 l200_21 A200_22 c200_22 l200_22 a200_23 a200_24 a200_25 a200_26 a200_27 A200_28 c200_28 l200_28 a200_29 a200_30 a200_31 _ _ ?side1 ?side2 ?side3 ?side4 ?side5 ?side6 ?side7 ?side8 ?side9 ?side10 ?side11 ?side12 ?side13 ?side14 ?side15 ?side16 ?side17 ?side18 ?side19 ?side20 ?side21 ?side22 ?side23 ?side24 ?side25 A6.out).mono ?_); (case side1 => exact s_D HR149_1.out HB.out); (case side2 => exact HC149_1.out); (case side3 => exact s_D HR200_9.out HB.out); (case side4 => exact HC200_9.out); (case side5 => exact s_D HR200_10.out HB.out); (case side6 => exact HC200_10.out); (case side7 => exact s_D HR200_11.out HB.out); (case side8 => exact HC200_11.out); (case side9 => exact s_D HR200_12.out HB.out); (case side10 => exact HC200_12.out); (case side11 => exact s_D HR200_17.out HB.out); (case side12 => exact HC200_17.out); (case side13 => exact s_D HR200_18.out HB.out); (case side14 => exact HC200_18.out); (case side15 => exact s_D HR200_19.out HB.out); (case side16 => exact HC200_19.out); (case side17 => exact s_D HR200_20.out HB.out); (case side18 => exact HC200_20.out); (case side19 => exact s_D HR200_21.out HB.out); (case side20 => exact HC200_21.out); (case side21 => exact s_D HR200_22.out HB.out); (case side22 => exact HC200_22.out); (case side23 => exact s_D HR200_28.out HB.out); (case side24 => exact HC200_28.out); (case side25 => exact (by exact s_k BK148.out)); rintro e w9 ⟨rfl, hb⟩; (try clear A6); replace BK148 := s_a (blk_below (s_k BK148.out) hb); replace HB := s_a (below_step (by exact s_b HB.out) hb); (try clear hb)))
       go_roundg k1
       case measure => have := HK1.out; omega
       case rel => exact ⟨(wrap64 (x8_1 + 1)), (by first | rfl | (simp; done) | (simp [*]; done)), H', ⟨by have := HK1.out; omega⟩, ⟨by exact s_k BK148.out⟩, ⟨by exact s_b HB.out⟩⟩
     ·rw [if_neg c5] at H
      exact absurd H (by simp)
    ·rw [if_neg c4] at H
     exact absurd H (by simp)
   ·rw [if_neg c3] at H
    have c3b0 : decide (x8_1 < (l0.length : Int)) = false := decide_eq_false c3
    clear c3
    obtain rfl := Option.some.inj H
    go_wp2
    go_ret
    exact ⟨by first | rfl | (simp [errW_none, errW_some] <;> rfl) | (simp [*, errW_none, errW_some] <;> rfl), by exact s_b HB.out⟩
def api_Peer_41_c40.f (k : Nat) (l0 : List (S64)) (a200_0 : ByteArray) (a200_1 : ByteArray) (a200_2 : ByteArray) (a200_3 : Int) (a200_4 : Int) (a200_5 : Int) (a200_6 : Int) (a200_7 : Bool) (a200_8 : Int) (l200_9 : List (S72)) (l200_10 : List (S110)) (l200_11 : List ByteArray) (l200_12 : List (S112)) (a200_13 : ByteArray) (a200_14 : Int) (a200_15 : Int) (a200_16 : Int) (l200_17 : List (S117)) (l200_18 : List (S74)) (l200_19 : List (S119)) (l200_20 : List (S121)) (l200_21 : List (S123)) (l200_22 : List (S125)) (a200_23 : Int) (a200_24 : Bool) (a200_25 : Int) (a200_26 : Int) (a200_27 : Int) (l200_28 : List (S127)) (a200_29 : Int) (a200_30 : ByteArray) (a200_31 : ByteArray) : Option (Bool) := (api_Peer_47_c40.f k l0 a200_0 a200_1 a200_2 a200_3 a200_4 a200_5 a200_6 a200_7 a200_8 l200_9 l200_10 l200_11 l200_12 a200_13 a200_14 a200_15 a200_16 l200_17 l200_18 l200_19 l200_20 l200_21 l200_22 a200_23 a200_24 a200_25 a200_26 a200_27 l200_28 a200_29 a200_30 a200_31).bind fun t152 => (some (decide (t152 ≥ 0)))
theorem api_Peer_41_c40.mono : ∀ a0 a1 a2 a3 a4 a5 a6 a7 a8 a9 a10 a11 a12 a13 a14 a15 a16 a17 a18 a19 a20 a21 a22 a23 a24 a25 a26 a27 a28 a29 a30 a31 a32 k, LeO (api_Peer_41_c40.f k a0 a1 a2 a3 a4 a5 a6 a7 a8 a9 a10 a11 a12 a13 a14 a15 a16 a17 a18 a19 a20 a21 a22 a23 a24 a25 a26 a27 a28 a29 a30 a31 a32) (api_Peer_41_c40.f (k + 1) a0 a1 a2 a3 a4 a5 a6 a7 a8 a9 a10 a11 a12 a13 a14 a15 a16 a17 a18 a19 a20 a21 a22 a23 a24 a25 a26 a27 a28 a29 a30 a31 a32) := by
 intro a0 a1 a2 a3 a4 a5 a6 a7 a8 a9 a10 a11 a12 a13 a14 a15 a16 a17 a18 a19 a20 a21 a22 a23 a24 a25 a26 a27 a28 a29 a30 a31 a32 k
 unfold api_Peer_41_c40.f
 repeat' first
   | (with_reducible exact api_Peer_47_c40.mono _ _ _ _ _ _ _ _ _ _ _ _ _ _ _ _ _ _ _ _ _ _ _ _ _ _ _ _ _ _ _ _ _ _)
   | (with_reducible exact LeO.refl _)
   | (with_reducible exact LeO.none _)
   | (with_reducible refine LeO.ite ?_ ?_)
   | (with_reducible refine LeO.bind ?_ (fun _ => ?_))
   | exact api_Peer_47_c40.mono _ _ _ _ _ _ _ _ _ _ _ _ _ _ _ _ _ _ _ _ _ _ _ _ _ _ _ _ _ _ _ _ _ _
   | exact LeO.none _
   | refine LeO.ite ?_ ?_
   | refine LeO.bind ?_ (fun _ => ?_)
set_option maxHeartbeats 8000000 in
set_option maxRecDepth 100000 in
theorem api_Peer_41_c40.calls (k : Nat) (A0 : Option Addr) (c0 : Nat) (l0 : List (S64)) (g200_ : Nat) (a200_0 : ByteArray) (a200_1 : ByteArray) (a200_2 : ByteArray) (a200_3 : Int) (a200_4 : Int) (a200_5 : Int) (a200_6 : Int) (a200_7 : Bool) (a200_8 : Int) (A200_9 : Option Addr) (c200_9 : Nat) (l200_9 : List (S72)) (A200_10 : Option Addr) (c200_10 : Nat) (l200_10 : List (S110)) (A200_11 : Option Addr) (c200_11 : Nat) (l200_11 : List ByteArray) (A200_12 : Option Addr) (c200_12 : Nat) (l200_12 : List (S112)) (a200_13 : ByteArray) (a200_14 : Int) (a200_15 : Int) (a200_16 : Int) (A200_17 : Option Addr) (c200_17 : Nat) (l200_17 : List (S117)) (A200_18 : Option Addr) (c200_18 : Nat) (l200_18 : List (S74)) (A200_19 : Option Addr) (c200_19 : Nat) (l200_19 : List (S119)) (A200_20 : Option Addr) (c200_20 : Nat) (l200_20 : List (S121)) (A200_21 : Option Addr) (c200_21 : Nat) (l200_21 : List (S123)) (A200_22 : Option Addr) (c200_22 : Nat) (l200_22 : List (S125)) (a200_23 : Int) (a200_24 : Bool) (a200_25 : Int) (a200_26 : Int) (a200_27 : Int) (A200_28 : Option Addr) (c200_28 : Nat) (l200_28 : List (S127)) (a200_29 : Int) (a200_30 : ByteArray) (a200_31 : ByteArray) (r : Bool) (w : World) (hr0 : Kd.C k64 w A0 l0.length l0) (hc0 : l0.length ≤ c0) (hr200_9 : Kd.C k72 w A200_9 l200_9.length l200_9) (hc200_9 : l200_9.length ≤ c200_9) (hr200_10 : Kd.C k110 w A200_10 l200_10.length l200_10) (hc200_10 : l200_10.length ≤ c200_10) (hr200_11 : Kd.C Kd.string w A200_11 l200_11.length l200_11) (hc200_11 : l200_11.length ≤ c200_11) (hr200_12 : Kd.C k112 w A200_12 l200_12.length l200_12) (hc200_12 : l200_12.length ≤ c200_12) (hr200_17 : Kd.C k117 w A200_17 l200_17.length l200_17) (hc200_17 : l200_17.length ≤ c200_17) (hr200_18 : Kd.C k74 w A200_18 l200_18.length l200_18) (hc200_18 : l200_18.length ≤ c200_18) (hr200_19 : Kd.C k119 w A200_19 l200_19.length l200_19) (hc200_19 : l200_19.length ≤ c200_19) (hr200_20 : Kd.C k121 w A200_20 l200_20.length l200_20) (hc200_20 : l200_20.length ≤ c200_20) (hr200_21 : Kd.C k123 w A200_21 l200_21.length l200_21) (hc200_21 : l200_21.length ≤ c200_21) (hr200_22 : Kd.C k125 w A200_22 l200_22.length l200_22) (hc200_22 : l200_22.length ≤ c200_22) (hr200_28 : Kd.C k127 w A200_28 l200_28.length l200_28) (hc200_28 : l200_28.length ≤ c200_28) (hbx200 : w.heap[g200_]? = some (.cells #[.string a200_0, .string a200_1, .string a200_2, .int .i64 a200_3, .int .i64 a200_4, .int .i64 a200_5, .int .i64 a200_6, .bool a200_7, .int .i64 a200_8, .slice A200_9 l200_9.length c200_9, .slice A200_10 l200_10.length c200_10, .slice A200_11 l200_11.length c200_11, .slice A200_12 l200_12.length c200_12, .string a200_13, .int .i64 a200_14, .int .i64 a200_15, .int .i64 a200_16, .slice A200_17 l200_17.length c200_17, .slice A200_18 l200_18.length c200_18, .slice A200_19 l200_19.length c200_19, .slice A200_20 l200_20.length c200_20, .slice A200_21 l200_21.length c200_21, .slice A200_22 l200_22.length c200_22, .int .i64 a200_23, .bool a200_24, .int .i64 a200_25, .int .i64 a200_26, .int .i64 a200_27, .slice A200_28 l200_28.length c200_28, .int .i64 a200_29, .string a200_30, .string a200_31] 41 (0, 0))) (h : api_Peer_41_c40.f k l0 a200_0 a200_1 a200_2 a200_3 a200_4 a200_5 a200_6 a200_7 a200_8 l200_9 l200_10 l200_11 l200_12 a200_13 a200_14 a200_15 a200_16 l200_17 l200_18 l200_19 l200_20 l200_21 l200_22 a200_23 a200_24 a200_25 a200_26 a200_27 l200_28 a200_29 a200_30 a200_31 = some r) :
  Calls Try.prog 41 #[.slice A0 l0.length c0, .func (.func 40) #[] #[.pointer (some ⟨g200_, 0, none⟩)]] w fun e w' => e = .returned (.bool r) ∧ Below w.heap.size w w' := by
 have HR0 := s_a hr0
 have HC0 := s_a hc0
 clear hr0 hc0
 have HR200_9 := s_a hr200_9
 have HC200_9 := s_a hc200_9
 clear hr200_9 hc200_9
 have HR200_10 := s_a hr200_10
 have HC200_10 := s_a hc200_10
 clear hr200_10 hc200_10
 have HR200_11 := s_a hr200_11
 have HC200_11 := s_a hc200_11
 clear hr200_11 hc200_11
 have HR200_12 := s_a hr200_12
 have HC200_12 := s_a hc200_12
 clear hr200_12 hc200_12
 have HR200_17 := s_a hr200_17
 have HC200_17 := s_a hc200_17
 clear hr200_17 hc200_17
 have HR200_18 := s_a hr200_18
 have HC200_18 := s_a hc200_18
 clear hr200_18 hc200_18
 have HR200_19 := s_a hr200_19
 have HC200_19 := s_a hc200_19
 clear hr200_19 hc200_19
 have HR200_20 := s_a hr200_20
 have HC200_20 := s_a hc200_20
 clear hr200_20 hc200_20
 have HR200_21 := s_a hr200_21
 have HC200_21 := s_a hc200_21
 clear hr200_21 hc200_21
 have HR200_22 := s_a hr200_22
 have HC200_22 := s_a hc200_22
 clear hr200_22 hc200_22
 have HR200_28 := s_a hr200_28
 have HC200_28 := s_a hc200_28
 clear hr200_28 hc200_28
 have BK151 := s_a hbx200
 clear hbx200
 have HB := s_a (Below.refl w.heap.size w)
 have H := h; unfold api_Peer_41_c40.f at H
 clear h
 replace H := Option.bind_eq_some_iff.mp H
 obtain ⟨t152, A30, H⟩ := H
 replace H : (some (decide (t152 ≥ 0))) = some r := H
 have A3 := s_a A30
 clear A30
 obtain rfl := Option.some.inj H
 go_enter Try.func41, Try.ntmps41
 go_wp2_with (first | (go_at_call 47; (with_reducible refine (api_Peer_47_c40.calls k _ _ _ g200_ a200_0 a200_1 a200_2 a200_3 a200_4 a200_5 a200_6 a200_7 a200_8 A200_9 c200_9 l200_9 A200_10 c200_10 l200_10 A200_11 c200_11 l200_11 A200_12 c200_12 l200_12 a200_13 a200_14 a200_15 a200_16 A200_17 c200_17 l200_17 A200_18 c200_18 l200_18 A200_19 c200_19 l200_19 A200_20 c200_20 l200_20 A200_21 c200_21 l200_21 A200_22 c200_22 l200_22 a200_23 a200_24 a200_25 a200_26 a200_27 A200_28 c200_28 l200_28 a200_29 a200_30 a200_31 _ _ ?side1 ?side2 ?side3 ?side4 ?side5 ?side6 ?side7 ?side8 ?side9 ?side10 ?side11 ?side12 ?side13 ?side14 ?side15 ?side16 ?side17 ?side18 ?side19 ?side20 ?side21 ?side22 ?side23 ?side24 ?side25 A3.out).mono ?_); (case side1 => exact s_C HR0.out); (case side2 => exact HC0.out); (case side3 => exact s_C HR200_9.out); (case side4 => exact HC200_9.out); (case side5 => exact s_C HR200_10.out); (case side6 => exact HC200_10.out); (case side7 => exact s_C HR200_11.out); (case side8 => exact HC200_11.out); (case side9 => exact s_C HR200_12.out); (case side10 => exact HC200_12.out); (case side11 => exact s_C HR200_17.out); (case side12 => exact HC200_17.out); (case side13 => exact s_C HR200_18.out); (case side14 => exact HC200_18.out); (case side15 => exact s_C HR200_19.out); (case side16 => exact HC200_19.out); (case side17 => exact s_C HR200_20.out); (case side18 => exact HC200_20.out); (case side19 => exact s_C HR200_21.out); (case side20 => exact HC200_21.out); (case side21 => exact s_C HR200_22.out); (case side22 => exact HC200_22.out); (case side23 => exact s_C HR200_28.out); (case side24 => exact HC200_28.out); (case side25 => exact (by exact s_k BK151.out)); rintro e w4 ⟨rfl, hb⟩; (try clear A3); replace BK151 := s_a (blk_below (s_k BK151.out) hb); replace HB := s_a (below_step (by exact s_b HB.out) hb); (try clear hb)))
 go_ret
 exact ⟨by first | rfl | (simp [errW_none, errW_some] <;> rfl) | (simp [*, errW_none, errW_some] <;> rfl), by exact s_b HB.out⟩
def netpolicy_admits.f (k : Nat) (a0_0 : Bool) (l0_1 : List (S64)) (l0_2 : List Int) (a1_0 : ByteArray) (a1_1 : ByteArray) (a1_2 : ByteArray) (a1_3 : Int) (a1_4 : Int) (a1_5 : Int) (a1_6 : Int) (a1_7 : Bool) (a1_8 : Int) (l1_9 : List (S72)) (l1_10 : List (S110)) (l1_11 : List ByteArray) (l1_12 : List (S112)) (a1_13 : ByteArray) (a1_14 : Int) (a1_15 : Int) (a1_16 : Int) (l1_17 : List (S117)) (l1_18 : List (S74)) (l1_19 : List (S119)) (l1_20 : List (S121)) (l1_21 : List (S123)) (l1_22 : List (S125)) (a1_23 : Int) (a1_24 : Bool) (a1_25 : Int) (a1_26 : Int) (a1_27 : Int) (l1_28 : List (S127)) (a1_29 : Int) (a1_30 : ByteArray) (a1_31 : ByteArray) (a2 : Int) : Option (Bool) := if (l0_1.length : Int) = 0 then (if (l0_2.length : Int) = 0 then (some true) else ((slices_Contains_int_int.f k l0_2 a2).bind fun t155 => (some t155))) else ((api_Peer_41_c40.f k l0_1 a1_0 a1_1 a1_2 a1_3 a1_4 a1_5 a1_6 a1_7 a1_8 l1_9 l1_10 l1_11 l1_12 a1_13 a1_14 a1_15 a1_16 l1_17 l1_18 l1_19 l1_20 l1_21 l1_22 a1_23 a1_24 a1_25 a1_26 a1_27 l1_28 a1_29 a1_30 a1_31).bind fun t156 => (if t156 = true then (if (l0_2.length : Int) = 0 then (some true) else ((slices_Contains_int_int.f k l0_2 a2).bind fun t157 => (some t157))) else (some false)))
theorem netpolicy_admits.mono : ∀ a0 a1 a2 a3 a4 a5 a6 a7 a8 a9 a10 a11 a12 a13 a14 a15 a16 a17 a18 a19 a20 a21 a22 a23 a24 a25 a26 a27 a28 a29 a30 a31 a32 a33 a34 a35 k, LeO (netpolicy_admits.f k a0 a1 a2 a3 a4 a5 a6 a7 a8 a9 a10 a11 a12 a13 a14 a15 a16 a17 a18 a19 a20 a21 a22 a23 a24 a25 a26 a27 a28 a29 a30 a31 a32 a33 a34 a35) (netpolicy_admits.f (k + 1) a0 a1 a2 a3 a4 a5 a6 a7 a8 a9 a10 a11 a12 a13 a14 a15 a16 a17 a18 a19 a20 a21 a22 a23 a24 a25 a26 a27 a28 a29 a30 a31 a32 a33 a34 a35) := by
 intro a0 a1 a2 a3 a4 a5 a6 a7 a8 a9 a10 a11 a12 a13 a14 a15 a16 a17 a18 a19 a20 a21 a22 a23 a24 a25 a26 a27 a28 a29 a30 a31 a32 a33 a34 a35 k
 unfold netpolicy_admits.f
 repeat' first
   | (with_reducible exact api_Peer_41_c40.mono _ _ _ _ _ _ _ _ _ _ _ _ _ _ _ _ _ _ _ _ _ _ _ _ _ _ _ _ _ _ _ _ _ _)
   | (with_reducible exact slices_Contains_int_int.mono _ _ _)
   | (with_reducible exact LeO.refl _)
   | (with_reducible exact LeO.none _)
   | (with_reducible refine LeO.ite ?_ ?_)
   | (with_reducible refine LeO.bind ?_ (fun _ => ?_))
   | exact api_Peer_41_c40.mono _ _ _ _ _ _ _ _ _ _ _ _ _ _ _ _ _ _ _ _ _ _ _ _ _ _ _ _ _ _ _ _ _ _
   | exact slices_Contains_int_int.mono _ _ _
   | exact LeO.none _
   | refine LeO.ite ?_ ?_
   | refine LeO.bind ?_ (fun _ => ?_)
set_option maxHeartbeats 8000000 in
set_option maxRecDepth 100000 in
theorem netpolicy_admits.calls (k : Nat) (a0_0 : Bool) (A0_1 : Option Addr) (c0_1 : Nat) (l0_1 : List (S64)) (A0_2 : Option Addr) (c0_2 : Nat) (l0_2 : List Int) (a1_0 : ByteArray) (a1_1 : ByteArray) (a1_2 : ByteArray) (a1_3 : Int) (a1_4 : Int) (a1_5 : Int) (a1_6 : Int) (a1_7 : Bool) (a1_8 : Int) (A1_9 : Option Addr) (c1_9 : Nat) (l1_9 : List (S72)) (A1_10 : Option Addr) (c1_10 : Nat) (l1_10 : List (S110)) (A1_11 : Option Addr) (c1_11 : Nat) (l1_11 : List ByteArray) (A1_12 : Option Addr) (c1_12 : Nat) (l1_12 : List (S112)) (a1_13 : ByteArray) (a1_14 : Int) (a1_15 : Int) (a1_16 : Int) (A1_17 : Option Addr) (c1_17 : Nat) (l1_17 : List (S117)) (A1_18 : Option Addr) (c1_18 : Nat) (l1_18 : List (S74)) (A1_19 : Option Addr) (c1_19 : Nat) (l1_19 : List (S119)) (A1_20 : Option Addr) (c1_20 : Nat) (l1_20 : List (S121)) (A1_21 : Option Addr) (c1_21 : Nat) (l1_21 : List (S123)) (A1_22 : Option Addr) (c1_22 : Nat) (l1_22 : List (S125)) (a1_23 : Int) (a1_24 : Bool) (a1_25 : Int) (a1_26 : Int) (a1_27 : Int) (A1_28 : Option Addr) (c1_28 : Nat) (l1_28 : List (S127)) (a1_29 : Int) (a1_30 : ByteArray) (a1_31 : ByteArray) (a2 : Int) (r : Bool) (w : World) (hr0_1 : Kd.C k64 w A0_1 l0_1.length l0_1) (hc0_1 : l0_1.length ≤ c0_1) (hr0_2 : Kd.C (Kd.int .i64) w A0_2 l0_2.length l0_2) (hc0_2 : l0_2.length ≤ c0_2) (hr1_9 : Kd.C k72 w A1_9 l1_9.length l1_9) (hc1_9 : l1_9.length ≤ c1_9) (hr1_10 : Kd.C k110 w A1_10 l1_10.length l1_10) (hc1_10 : l1_10.length ≤ c1_10) (hr1_11 : Kd.C Kd.string w A1_11 l1_11.length l1_11) (hc1_11 : l1_11.length ≤ c1_11) (hr1_12 : Kd.C k112 w A1_12 l1_12.length l1_12) (hc1_12 : l1_12.length ≤ c1_12) (hr1_17 : Kd.C k117 w A1_17 l1_17.length l1_17) (hc1_17 : l1_17.length ≤ c1_17) (hr1_18 : Kd.C k74 w A1_18 l1_18.length l1_18) (hc1_18 : l1_18.length ≤ c1_18) (hr1_19 : Kd.C k119 w A1_19 l1_19.length l1_19) (hc1_19 : l1_19.length ≤ c1_19) (hr1_20 : Kd.C k121 w A1_20 l1_20.length l1_20) (hc1_20 : l1_20.length ≤ c1_20) (hr1_21 : Kd.C k123 w A1_21 l1_21.length l1_21) (hc1_21 : l1_21.length ≤ c1_21) (hr1_22 : Kd.C k125 w A1_22 l1_22.length l1_22) (hc1_22 : l1_22.length ≤ c1_22) (hr1_28 : Kd.C k127 w A1_28 l1_28.length l1_28) (hc1_28 : l1_28.length ≤ c1_28) (h : netpolicy_admits.f k a0_0 l0_1 l0_2 a1_0 a1_1 a1_2 a1_3 a1_4 a1_5 a1_6 a1_7 a1_8 l1_9 l1_10 l1_11 l1_12 a1_13 a1_14 a1_15 a1_16 l1_17 l1_18 l1_19 l1_20 l1_21 l1_22 a1_23 a1_24 a1_25 a1_26 a1_27 l1_28 a1_29 a1_30 a1_31 a2 = some r) :
  Calls Try.prog 33 #[.agg #[.bool a0_0, .slice A0_1 l0_1.length c0_1, .slice A0_2 l0_2.length c0_2], .agg #[.string a1_0, .string a1_1, .string a1_2, .int .i64 a1_3, .int .i64 a1_4, .int .i64 a1_5, .int .i64 a1_6, .bool a1_7, .int .i64 a1_8, .slice A1_9 l1_9.length c1_9, .slice A1_10 l1_10.length c1_10, .slice A1_11 l1_11.length c1_11, .slice A1_12 l1_12.length c1_12, .string a1_13, .int .i64 a1_14, .int .i64 a1_15, .int .i64 a1_16, .slice A1_17 l1_17.length c1_17, .slice A1_18 l1_18.length c1_18, .slice A1_19 l1_19.length c1_19, .slice A1_20 l1_20.length c1_20, .slice A1_21 l1_21.length c1_21, .slice A1_22 l1_22.length c1_22, .int .i64 a1_23, .bool a1_24, .int .i64 a1_25, .int .i64 a1_26, .int .i64 a1_27, .slice A1_28 l1_28.length c1_28, .int .i64 a1_29, .string a1_30, .string a1_31], .int .i64 a2] w fun e w' => e = .returned (.bool r) ∧ Below w.heap.size w w' := by
 have hu58 := Try.underlying58
 have hu41 := Try.underlying41
 have HR0_1 := s_a hr0_1
 have HC0_1 := s_a hc0_1
 clear hr0_1 hc0_1
 have HR0_2 := s_a hr0_2
 have HC0_2 := s_a hc0_2
 clear hr0_2 hc0_2
 have HR1_9 := s_a hr1_9
 have HC1_9 := s_a hc1_9
 clear hr1_9 hc1_9
 have HR1_10 := s_a hr1_10
 have HC1_10 := s_a hc1_10
 clear hr1_10 hc1_10
 have HR1_11 := s_a hr1_11
 have HC1_11 := s_a hc1_11
 clear hr1_11 hc1_11
 have HR1_12 := s_a hr1_12
 have HC1_12 := s_a hc1_12
 clear hr1_12 hc1_12
 have HR1_17 := s_a hr1_17
 have HC1_17 := s_a hc1_17
 clear hr1_17 hc1_17
 have HR1_18 := s_a hr1_18
 have HC1_18 := s_a hc1_18
 clear hr1_18 hc1_18
 have HR1_19 := s_a hr1_19
 have HC1_19 := s_a hc1_19
 clear hr1_19 hc1_19
 have HR1_20 := s_a hr1_20
 have HC1_20 := s_a hc1_20
 clear hr1_20 hc1_20
 have HR1_21 := s_a hr1_21
 have HC1_21 := s_a hc1_21
 clear hr1_21 hc1_21
 have HR1_22 := s_a hr1_22
 have HC1_22 := s_a hc1_22
 clear hr1_22 hc1_22
 have HR1_28 := s_a hr1_28
 have HC1_28 := s_a hc1_28
 clear hr1_28 hc1_28
 have HB := s_a (Below.refl w.heap.size w)
 have H := h; unfold netpolicy_admits.f at H
 clear h
 by_cases c4 : (l0_1.length : Int) = 0
 ·rw [if_pos c4] at H
  have c4b0 : ((l0_1.length : Int) == 0) = true := beq_iff_eq.mpr c4
  have c4b1 : ((l0_1.length : Int) != 0) = false := bne_eq_false_iff_eq.mpr c4
  clear c4
  by_cases c5 : (l0_2.length : Int) = 0
  ·rw [if_pos c5] at H
   have c5b0 : ((l0_2.length : Int) == 0) = true := beq_iff_eq.mpr c5
   have c5b1 : ((l0_2.length : Int) != 0) = false := bne_eq_false_iff_eq.mpr c5
   clear c5
   obtain rfl := Option.some.inj H
   go_enter Try.func33, Try.ntmps33
   go_wp2_with (first | ((with_reducible refine gate_dst (N := 3) rfl ?_); (try (refine gate_guard (by rfl) ?_; dsimp only)); refine box_event ?hg (N := 3) ?hd (cs := #[.bool a0_0, .slice A0_1 l0_1.length c0_1, .slice A0_2 l0_2.length c0_2]) (t := 58) ?hr ?_; (case hd => rfl); (case hg => rfl); (case hr => first | (go_simp; done) | (go_simp; rfl)); intro gb153 hg w6 hbox hb; have BK153 := s_a (hbox); have GW153 := s_a ((by rw [hg]; exact (below_size (by exact s_b HB.out)) : w.heap.size ≤ gb153)); have GE153 := s_a ((by rw [hg]; exact (below_size (by exact s_b HB.out)) : w.heap.size ≤ gb153)); replace HB := s_a (below_step (by exact s_b HB.out) hb); clear hb hbox hg) | ((with_reducible refine gate_dst (N := 4) rfl ?_); (try (refine gate_guard (by rfl) ?_; dsimp only)); refine box_event ?hg (N := 4) ?hd (cs := #[.string a1_0, .string a1_1, .string a1_2, .int .i64 a1_3, .int .i64 a1_4, .int .i64 a1_5, .int .i64 a1_6, .bool a1_7, .int .i64 a1_8, .slice A1_9 l1_9.length c1_9, .slice A1_10 l1_10.length c1_10, .slice A1_11 l1_11.length c1_11, .slice A1_12 l1_12.length c1_12, .string a1_13, .int .i64 a1_14, .int .i64 a1_15, .int .i64 a1_16, .slice A1_17 l1_17.length c1_17, .slice A1_18 l1_18.length c1_18, .slice A1_19 l1_19.length c1_19, .slice A1_20 l1_20.length c1_20, .slice A1_21 l1_21.length c1_21, .slice A1_22 l1_22.length c1_22, .int .i64 a1_23, .bool a1_24, .int .i64 a1_25, .int .i64 a1_26, .int .i64 a1_27, .slice A1_28 l1_28.length c1_28, .int .i64 a1_29, .string a1_30, .string a1_31]) (t := 41) ?hr ?_; (case hd => rfl); (case hg => rfl); (case hr => first | (go_simp; done) | (go_simp; rfl)); intro gb154 hg w7 hbox hb; have BK154 := s_a (hbox); have GW154 := s_a ((by rw [hg]; exact (below_size (by exact s_b HB.out)) : w.heap.size ≤ gb154)); have GE154 := s_a ((by rw [hg]; exact (below_size (by exact s_b HB.out)) : w.heap.size ≤ gb154)); have NB153_154 := s_a ((by rw [hg]; exact Nat.ne_of_lt (blk_lt (s_k BK153.out)) : gb153 ≠ gb154)); have NB154_153 := s_a ((by rw [hg]; exact Nat.ne_of_gt (blk_lt (s_k BK153.out)) : gb154 ≠ gb153)); replace BK153 := s_a (blk_below (s_k BK153.out) hb); replace HB := s_a (below_step (by exact s_b HB.out) hb); clear hb hbox hg; have hnb8 := NB153_154.out; have hnc8 := NB154_153.out; obtain ⟨hcz9_0, hcz9_1, hcz9_2⟩ := cells58 BK153.out))
   go_ret
   exact ⟨by first | rfl | (simp [errW_none, errW_some] <;> rfl) | (simp [*, errW_none, errW_some] <;> rfl), by exact s_b HB.out⟩
  ·rw [if_neg c5] at H
   have c5b0 : ((l0_2.length : Int) == 0) = false := beq_eq_false_iff_ne.mpr c5
   have c5b1 : ((l0_2.length : Int) != 0) = true := bne_iff_ne.mpr c5
   have c5b2 : ¬ (l0_2 = []) := fun h_ => c5 (by rw [h_]; rfl)
   replace H := Option.bind_eq_some_iff.mp H
   obtain ⟨t155, A100, H⟩ := H
   replace H : (some t155) = some r := H
   have A10 := s_a A100
   clear A100
   obtain rfl := Option.some.inj H
   go_enter Try.func33, Try.ntmps33
   go_wp2_with (first | ((with_reducible refine gate_dst (N := 3) rfl ?_); (try (refine gate_guard (by rfl) ?_; dsimp only)); refine box_event ?hg (N := 3) ?hd (cs := #[.bool a0_0, .slice A0_1 l0_1.length c0_1, .slice A0_2 l0_2.length c0_2]) (t := 58) ?hr ?_; (case hd => rfl); (case hg => rfl); (case hr => first | (go_simp; done) | (go_simp; rfl)); intro gb153 hg w11 hbox hb; have BK153 := s_a (hbox); have GW153 := s_a ((by rw [hg]; exact (below_size (by exact s_b HB.out)) : w.heap.size ≤ gb153)); have GE153 := s_a ((by rw [hg]; exact (below_size (by exact s_b HB.out)) : w.heap.size ≤ gb153)); replace HB := s_a (below_step (by exact s_b HB.out) hb); clear hb hbox hg) | ((with_reducible refine gate_dst (N := 4) rfl ?_); (try (refine gate_guard (by rfl) ?_; dsimp only)); refine box_event ?hg (N := 4) ?hd (cs := #[.string a1_0, .string a1_1, .string a1_2, .int .i64 a1_3, .int .i64 a1_4, .int .i64 a1_5, .int .i64 a1_6, .bool a1_7, .int .i64 a1_8, .slice A1_9 l1_9.length c1_9, .slice A1_10 l1_10.length c1_10, .slice A1_11 l1_11.length c1_11, .slice A1_12 l1_12.length c1_12, .string a1_13, .int .i64 a1_14, .int .i64 a1_15, .int .i64 a1_16, .slice A1_17 l1_17.length c1_17, .slice A1_18 l1_18.length c1_18, .slice A1_19 l1_19.length c1_19, .slice A1_20 l1_20.length c1_20, .slice A1_21 l1_21.length c1_21, .slice A1_22 l1_22.length c1_22, .int .i64 a1_23, .bool a1_24, .int .i64 a1_25, .int .i64 a1_26, .int .i64 a1_27, .slice A1_28 l1_28.length c1_28, .int .i64 a1_29, .string a1_30, .string a1_31]) (t := 41) ?hr ?_; (case hd => rfl); (case hg => rfl); (case hr => first | (go_simp; done) | (go_simp; rfl)); intro gb154 hg w12 hbox hb; have BK154 := s_a (hbox); have GW154 := s_a ((by rw [hg]; exact (below_size (by exact s_b HB.out)) : w.heap.size ≤ gb154)); have GE154 := s_a ((by rw [hg]; exact (below_size (by exact s_b HB.out)) : w.heap.size ≤ gb154)); have NB153_154 := s_a ((by rw [hg]; exact Nat.ne_of_lt (blk_lt (s_k BK153.out)) : gb153 ≠ gb154)); have NB154_153 := s_a ((by rw [hg]; exact Nat.ne_of_gt (blk_lt (s_k BK153.out)) : gb154 ≠ gb153)); replace BK153 := s_a (blk_below (s_k BK153.out) hb); replace HB := s_a (below_step (by exact s_b HB.out) hb); clear hb hbox hg; have hnb13 := NB153_154.out; have hnc13 := NB154_153.out; obtain ⟨hcz14_0, hcz14_1, hcz14_2⟩ := cells58 BK153.out) | (go_at_call 42; (with_reducible refine (slices_Contains_int_int.calls k _ _ _ _ _ _ ?side1 ?side2 A10.out).mono ?_); (case side1 => exact s_D HR0_2.out HB.out); (case side2 => exact HC0_2.out); rintro e w' ⟨rfl, ⟨nd, rfl⟩⟩))
   go_ret
   exact ⟨by first | rfl | (simp [errW_none, errW_some] <;> rfl) | (simp [*, errW_none, errW_some] <;> rfl), by exact s_b HB.out⟩
 ·rw [if_neg c4] at H
  have c4b0 : ((l0_1.length : Int) == 0) = false := beq_eq_false_iff_ne.mpr c4
  have c4b1 : ((l0_1.length : Int) != 0) = true := bne_iff_ne.mpr c4
  have c4b2 : ¬ (l0_1 = []) := fun h_ => c4 (by rw [h_]; rfl)
  replace H := Option.bind_eq_some_iff.mp H
  obtain ⟨t156, A150, H⟩ := H
  replace H : (if t156 = true then (if (l0_2.length : Int) = 0 then (some true) else ((slices_Contains_int_int.f k l0_2 a2).bind fun t157 => (some t157))) else (some false)) = some r := H
  have A15 := s_a A150
  clear A150
  by_cases c16 : t156 = true
  ·subst c16
   (try rw [if_pos rfl] at H)
   by_cases c17 : (l0_2.length : Int) = 0
   ·rw [if_pos c17] at H
    have c17b0 : ((l0_2.length : Int) == 0) = true := beq_iff_eq.mpr c17
    have c17b1 : ((l0_2.length : Int) != 0) = false := bne_eq_false_iff_eq.mpr c17
    clear c17
    obtain rfl := Option.some.inj H
    go_enter Try.func33, Try.ntmps33
    go_wp2_with (first | ((with_reducible refine gate_dst (N := 3) rfl ?_); (try (refine gate_guard (by rfl) ?_; dsimp only)); refine box_event ?hg (N := 3) ?hd (cs := #[.bool a0_0, .slice A0_1 l0_1.length c0_1, .slice A0_2 l0_2.length c0_2]) (t := 58) ?hr ?_; (case hd => rfl); (case hg => rfl); (case hr => first | (go_simp; done) | (go_simp; rfl)); intro gb153 hg w18 hbox hb; have BK153 := s_a (hbox); have GW153 := s_a ((by rw [hg]; exact (below_size (by exact s_b HB.out)) : w.heap.size ≤ gb153)); have GE153 := s_a ((by rw [hg]; exact (below_size (by exact s_b HB.out)) : w.heap.size ≤ gb153)); replace HB := s_a (below_step (by exact s_b HB.out) hb); clear hb hbox hg) | ((with_reducible refine gate_dst (N := 4) rfl ?_); (try (refine gate_guard (by rfl) ?_; dsimp only)); refine box_event ?hg (N := 4) ?hd (cs := #[.string a1_0, .string a1_1, .string a1_2, .int .i64 a1_3, .int .i64 a1_4, .int .i64 a1_5, .int .i64 a1_6, .bool a1_7, .int .i64 a1_8, .slice A1_9 l1_9.length c1_9, .slice A1_10 l1_10.length c1_10, .slice A1_11 l1_11.length c1_11, .slice A1_12 l1_12.length c1_12, .string a1_13, .int .i64 a1_14, .int .i64 a1_15, .int .i64 a1_16, .slice A1_17 l1_17.length c1_17, .slice A1_18 l1_18.length c1_18, .slice A1_19 l1_19.length c1_19, .slice A1_20 l1_20.length c1_20, .slice A1_21 l1_21.length c1_21, .slice A1_22 l1_22.length c1_22, .int .i64 a1_23, .bool a1_24, .int .i64 a1_25, .int .i64 a1_26, .int .i64 a1_27, .slice A1_28 l1_28.length c1_28, .int .i64 a1_29, .string a1_30, .string a1_31]) (t := 41) ?hr ?_; (case hd => rfl); (case hg => rfl); (case hr => first | (go_simp; done) | (go_simp; rfl)); intro gb154 hg w19 hbox hb; have BK154 := s_a (hbox); have GW154 := s_a ((by rw [hg]; exact (below_size (by exact s_b HB.out)) : w.heap.size ≤ gb154)); have GE154 := s_a ((by rw [hg]; exact (below_size (by exact s_b HB.out)) : w.heap.size ≤ gb154)); have NB153_154 := s_a ((by rw [hg]; exact Nat.ne_of_lt (blk_lt (s_k BK153.out)) : gb153 ≠ gb154)); have NB154_153 := s_a ((by rw [hg]; exact Nat.ne_of_gt (blk_lt (s_k BK153.out)) : gb154 ≠ gb153)); replace BK153 := s_a (blk_below (s_k BK153.out) hb); replace HB := s_a (below_step (by exact s_b HB.out) hb); clear hb hbox hg; have hnb20 := NB153_154.out; have hnc20 := NB154_153.out; obtain ⟨hcz21_0, hcz21_1, hcz21_2⟩ := cells58 BK153.out) | (go_at_call 41; (with_reducible refine (api_Peer_41_c40.calls k _ _ _ gb154 a1_0 a1_1 a1_2 a1_3 a1_4 a1_5 a1_6 a1_7 a1_8 A1_9 c1_9 l1_9 A1_10 c1_10 l1_10 A1_11 c1_11 l1_11 A1_12 c1_12 l1_12 a1_13 a1_14 a1_15 a1_16 A1_17 c1_17 l1_17 A1_18 c1_18 l1_18 A1_19 c1_19 l1_19 A1_20 c1_20 l1_20 A1_21 c1_21 l1_21 A1_22 c1_22 l1_22 a1_23 a1_24 a1_25 a1_26 a1_27 A1_28 c1_28 l1_28 a1_29 a1_30 a1_31 _ _ ?side1 ?side2 ?side3 ?side4 ?side5 ?side6 ?side7 ?side8 ?side9 ?side10 ?side11 ?side12 ?side13 ?side14 ?side15 ?side16 ?side17 ?side18 ?side19 ?side20 ?side21 ?side22 ?side23 ?side24 ?side25 A15.out).mono ?_); (case side1 => exact s_D HR0_1.out HB.out); (case side2 => exact HC0_1.out); (case side3 => exact s_D HR1_9.out HB.out); (case side4 => exact HC1_9.out); (case side5 => exact s_D HR1_10.out HB.out); (case side6 => exact HC1_10.out); (case side7 => exact s_D HR1_11.out HB.out); (case side8 => exact HC1_11.out); (case side9 => exact s_D HR1_12.out HB.out); (case side10 => exact HC1_12.out); (case side11 => exact s_D HR1_17.out HB.out); (case side12 => exact HC1_17.out); (case side13 => exact s_D HR1_18.out HB.out); (case side14 => exact HC1_18.out); (case side15 => exact s_D HR1_19.out HB.out); (case side16 => exact HC1_19.out); (case side17 => exact s_D HR1_20.out HB.out); (case side18 => exact HC1_20.out); (case side19 => exact s_D HR1_21.out HB.out); (case side20 => exact HC1_21.out); (case side21 => exact s_D HR1_22.out HB.out); (case side22 => exact HC1_22.out); (case side23 => exact s_D HR1_28.out HB.out); (case side24 => exact HC1_28.out); (case side25 => exact (by exact s_k BK154.out)); rintro e w22 ⟨rfl, hb⟩; (try clear A15); replace BK153 := s_a (blk_below (s_k BK153.out) hb); replace BK154 := s_a (blk_below (s_k BK154.out) hb); replace HB := s_a (below_step (by exact s_b HB.out) hb); (try clear hb); obtain ⟨hcz23_0, hcz23_1, hcz23_2⟩ := cells58 BK153.out))
    go_ret
    exact ⟨by first | rfl | (simp [errW_none, errW_some] <;> rfl) | (simp [*, errW_none, errW_some] <;> rfl), by exact s_b HB.out⟩
   ·rw [if_neg c17] at H
    have c17b0 : ((l0_2.length : Int) == 0) = false := beq_eq_false_iff_ne.mpr c17
    have c17b1 : ((l0_2.length : Int) != 0) = true := bne_iff_ne.mpr c17
    have c17b2 : ¬ (l0_2 = []) := fun h_ => c17 (by rw [h_]; rfl)
    replace H := Option.bind_eq_some_iff.mp H
    obtain ⟨t157, A240, H⟩ := H
    replace H : (some t157) = some r := H
    have A24 := s_a A240
    clear A240
    obtain rfl := Option.some.inj H
    go_enter Try.func33, Try.ntmps33
    go_wp2_with (first | ((with_reducible refine gate_dst (N := 3) rfl ?_); (try (refine gate_guard (by rfl) ?_; dsimp only)); refine box_event ?hg (N := 3) ?hd (cs := #[.bool a0_0, .slice A0_1 l0_1.length c0_1, .slice A0_2 l0_2.length c0_2]) (t := 58) ?hr ?_; (case hd => rfl); (case hg => rfl); (case hr => first | (go_simp; done) | (go_simp; rfl)); intro gb153 hg w25 hbox hb; have BK153 := s_a (hbox); have GW153 := s_a ((by rw [hg]; exact (below_size (by exact s_b HB.out)) : w.heap.size ≤ gb153)); have GE153 := s_a ((by rw [hg]; exact (below_size (by exact s_b HB.out)) : w.heap.size ≤ gb153)); replace HB := s_a (below_step (by exact s_b HB.out) hb); clear hb hbox hg) | ((with_reducible refine gate_dst (N := 4) rfl ?_); (try (refine gate_guard (by rfl) ?_; dsimp only)); refine box_event ?hg (N := 4) ?hd (cs := #[.string a1_0, .string a1_1, .string a1_2, .int .i64 a1_3, .int .i64 a1_4, .int .i64 a1_5, .int .i64 a1_6, .bool a1_7, .int .i64 a1_8, .slice A1_9 l1_9.length c1_9, .slice A1_10 l1_10.length c1_10, .slice A1_11 l1_11.length c1_11, .slice A1_12 l1_12.length c1_12, .string a1_13, .int .i64 a1_14, .int .i64 a1_15, .int .i64 a1_16, .slice A1_17 l1_17.length c1_17, .slice A1_18 l1_18.length c1_18, .slice A1_19 l1_19.length c1_19, .slice A1_20 l1_20.length c1_20, .slice A1_21 l1_21.length c1_21, .slice A1_22 l1_22.length c1_22, .int .i64 a1_23, .bool a1_24, .int .i64 a1_25, .int .i64 a1_26, .int .i64 a1_27, .slice A1_28 l1_28.length c1_28, .int .i64 a1_29, .string a1_30, .string a1_31]) (t := 41) ?hr ?_; (case hd => rfl); (case hg => rfl); (case hr => first | (go_simp; done) | (go_simp; rfl)); intro gb154 hg w26 hbox hb; have BK154 := s_a (hbox); have GW154 := s_a ((by rw [hg]; exact (below_size (by exact s_b HB.out)) : w.heap.size ≤ gb154)); have GE154 := s_a ((by rw [hg]; exact (below_size (by exact s_b HB.out)) : w.heap.size ≤ gb154)); have NB153_154 := s_a ((by rw [hg]; exact Nat.ne_of_lt (blk_lt (s_k BK153.out)) : gb153 ≠ gb154)); have NB154_153 := s_a ((by rw [hg]; exact Nat.ne_of_gt (blk_lt (s_k BK153.out)) : gb154 ≠ gb153)); replace BK153 := s_a (blk_below (s_k BK153.out) hb); replace HB := s_a (below_step (by exact s_b HB.out) hb); clear hb hbox hg; have hnb27 := NB153_154.out; have hnc27 := NB154_153.out; obtain ⟨hcz28_0, hcz28_1, hcz28_2⟩ := cells58 BK153.out) | (go_at_call 41; (with_reducible refine (api_Peer_41_c40.calls k _ _ _ gb154 a1_0 a1_1 a1_2 a1_3 a1_4 a1_5 a1_6 a1_7 a1_8 A1_9 c1_9 l1_9 A1_10 c1_10 l1_10 A1_11 c1_11 l1_11 A1_12 c1_12 l1_12 a1_13 a1_14 a1_15 a1_16 A1_17 c1_17 l1_17 A1_18 c1_18 l1_18 A1_19 c1_19 l1_19 A1_20 c1_20 l1_20 A1_21 c1_21 l1_21 A1_22 c1_22 l1_22 a1_23 a1_24 a1_25 a1_26 a1_27 A1_28 c1_28 l1_28 a1_29 a1_30 a1_31 _ _ ?side1 ?side2 ?side3 ?side4 ?side5 ?side6 ?side7 ?side8 ?side9 ?side10 ?side11 ?side12 ?side13 ?side14 ?side15 ?side16 ?side17 ?side18 ?side19 ?side20 ?side21 ?side22 ?side23 ?side24 ?side25 A15.out).mono ?_); (case side1 => exact s_D HR0_1.out HB.out); (case side2 => exact HC0_1.out); (case side3 => exact s_D HR1_9.out HB.out); (case side4 => exact HC1_9.out); (case side5 => exact s_D HR1_10.out HB.out); (case side6 => exact HC1_10.out); (case side7 => exact s_D HR1_11.out HB.out); (case side8 => exact HC1_11.out); (case side9 => exact s_D HR1_12.out HB.out); (case side10 => exact HC1_12.out); (case side11 => exact s_D HR1_17.out HB.out); (case side12 => exact HC1_17.out); (case side13 => exact s_D HR1_18.out HB.out); (case side14 => exact HC1_18.out); (case side15 => exact s_D HR1_19.out HB.out); (case side16 => exact HC1_19.out); (case side17 => exact s_D HR1_20.out HB.out); (case side18 => exact HC1_20.out); (case side19 => exact s_D HR1_21.out HB.out); (case side20 => exact HC1_21.out); (case side21 => exact s_D HR1_22.out HB.out); (case side22 => exact HC1_22.out); (case side23 => exact s_D HR1_28.out HB.out); (case side24 => exact HC1_28.out); (case side25 => exact (by exact s_k BK154.out)); rintro e w29 ⟨rfl, hb⟩; (try clear A15); replace BK153 := s_a (blk_below (s_k BK153.out) hb); replace BK154 := s_a (blk_below (s_k BK154.out) hb); replace HB := s_a (below_step (by exact s_b HB.out) hb); (try clear hb); obtain ⟨hcz30_0, hcz30_1, hcz30_2⟩ := cells58 BK153.out) | (go_at_call 42; (with_reducible refine (slices_Contains_int_int.calls k _ _ _ _ _ _ ?side1 ?side2 A24.out).mono ?_); (case side1 => exact s_D HR0_2.out HB.out); (case side2 => exact HC0_2.out); rintro e w' ⟨rfl, ⟨nd, rfl⟩⟩))
    go_ret
    exact ⟨by first | rfl | (simp [errW_none, errW_some] <;> rfl) | (simp [*, errW_none, errW_some] <;> rfl), by exact s_b HB.out⟩
  ·replace c16 := Bool.eq_false_iff.mpr c16
   subst c16
   (try rw [if_neg (show ¬ (false = true) by decide)] at H)
   obtain rfl := Option.some.inj H
   go_enter Try.func33, Try.ntmps33
   go_wp2_with (first | ((with_reducible refine gate_dst (N := 3) rfl ?_); (try (refine gate_guard (by rfl) ?_; dsimp only)); refine box_event ?hg (N := 3) ?hd (cs := #[.bool a0_0, .slice A0_1 l0_1.length c0_1, .slice A0_2 l0_2.length c0_2]) (t := 58) ?hr ?_; (case hd => rfl); (case hg => rfl); (case hr => first | (go_simp; done) | (go_simp; rfl)); intro gb153 hg w31 hbox hb; have BK153 := s_a (hbox); have GW153 := s_a ((by rw [hg]; exact (below_size (by exact s_b HB.out)) : w.heap.size ≤ gb153)); have GE153 := s_a ((by rw [hg]; exact (below_size (by exact s_b HB.out)) : w.heap.size ≤ gb153)); replace HB := s_a (below_step (by exact s_b HB.out) hb); clear hb hbox hg) | ((with_reducible refine gate_dst (N := 4) rfl ?_); (try (refine gate_guard (by rfl) ?_; dsimp only)); refine box_event ?hg (N := 4) ?hd (cs := #[.string a1_0, .string a1_1, .string a1_2, .int .i64 a1_3, .int .i64 a1_4, .int .i64 a1_5, .int .i64 a1_6, .bool a1_7, .int .i64 a1_8, .slice A1_9 l1_9.length c1_9, .slice A1_10 l1_10.length c1_10, .slice A1_11 l1_11.length c1_11, .slice A1_12 l1_12.length c1_12, .string a1_13, .int .i64 a1_14, .int .i64 a1_15, .int .i64 a1_16, .slice A1_17 l1_17.length c1_17, .slice A1_18 l1_18.length c1_18, .slice A1_19 l1_19.length c1_19, .slice A1_20 l1_20.length c1_20, .slice A1_21 l1_21.length c1_21, .slice A1_22 l1_22.length c1_22, .int .i64 a1_23, .bool a1_24, .int .i64 a1_25, .int .i64 a1_26, .int .i64 a1_27, .slice A1_28 l1_28.length c1_28, .int .i64 a1_29, .string a1_30, .string a1_31]) (t := 41) ?hr ?_; (case hd => rfl); (case hg => rfl); (case hr => first | (go_simp; done) | (go_simp; rfl)); intro gb154 hg w32 hbox hb; have BK154 := s_a (hbox); have GW154 := s_a ((by rw [hg]; exact (below_size (by exact s_b HB.out)) : w.heap.size ≤ gb154)); have GE154 := s_a ((by rw [hg]; exact (below_size (by exact s_b HB.out)) : w.heap.size ≤ gb154)); have NB153_154 := s_a ((by rw [hg]; exact Nat.ne_of_lt (blk_lt (s_k BK153.out)) : gb153 ≠ gb154)); have NB154_153 := s_a ((by rw [hg]; exact Nat.ne_of_gt (blk_lt (s_k BK153.out)) : gb154 ≠ gb153)); replace BK153 := s_a (blk_below (s_k BK153.out) hb); replace HB := s_a (below_step (by exact s_b HB.out) hb); clear hb hbox hg; have hnb33 := NB153_154.out; have hnc33 := NB154_153.out; obtain ⟨hcz34_0, hcz34_1, hcz34_2⟩ := cells58 BK153.out) | (go_at_call 41; (with_reducible refine (api_Peer_41_c40.calls k _ _ _ gb154 a1_0 a1_1 a1_2 a1_3 a1_4 a1_5 a1_6 a1_7 a1_8 A1_9 c1_9 l1_9 A1_10 c1_10 l1_10 A1_11 c1_11 l1_11 A1_12 c1_12 l1_12 a1_13 a1_14 a1_15 a1_16 A1_17 c1_17 l1_17 A1_18 c1_18 l1_18 A1_19 c1_19 l1_19 A1_20 c1_20 l1_20 A1_21 c1_21 l1_21 A1_22 c1_22 l1_22 a1_23 a1_24 a1_25 a1_26 a1_27 A1_28 c1_28 l1_28 a1_29 a1_30 a1_31 _ _ ?side1 ?side2 ?side3 ?side4 ?side5 ?side6 ?side7 ?side8 ?side9 ?side10 ?side11 ?side12 ?side13 ?side14 ?side15 ?side16 ?side17 ?side18 ?side19 ?side20 ?side21 ?side22 ?side23 ?side24 ?side25 A15.out).mono ?_); (case side1 => exact s_D HR0_1.out HB.out); (case side2 => exact HC0_1.out); (case side3 => exact s_D HR1_9.out HB.out); (case side4 => exact HC1_9.out); (case side5 => exact s_D HR1_10.out HB.out); (case side6 => exact HC1_10.out); (case side7 => exact s_D HR1_11.out HB.out); (case side8 => exact HC1_11.out); (case side9 => exact s_D HR1_12.out HB.out); (case side10 => exact HC1_12.out); (case side11 => exact s_D HR1_17.out HB.out); (case side12 => exact HC1_17.out); (case side13 => exact s_D HR1_18.out HB.out); (case side14 => exact HC1_18.out); (case side15 => exact s_D HR1_19.out HB.out); (case side16 => exact HC1_19.out); (case side17 => exact s_D HR1_20.out HB.out); (case side18 => exact HC1_20.out); (case side19 => exact s_D HR1_21.out HB.out); (case side20 => exact HC1_21.out); (case side21 => exact s_D HR1_22.out HB.out); (case side22 => exact HC1_22.out); (case side23 => exact s_D HR1_28.out HB.out); (case side24 => exact HC1_28.out); (case side25 => exact (by exact s_k BK154.out)); rintro e w35 ⟨rfl, hb⟩; (try clear A15); replace BK153 := s_a (blk_below (s_k BK153.out) hb); replace BK154 := s_a (blk_below (s_k BK154.out) hb); replace HB := s_a (below_step (by exact s_b HB.out) hb); (try clear hb)))
   go_ret
   exact ⟨by first | rfl | (simp [errW_none, errW_some] <;> rfl) | (simp [*, errW_none, errW_some] <;> rfl), by exact s_b HB.out⟩
def netpolicy_open_1_1.f (k : Nat) (a0_0 : Bool) (l0_1 : List (S64)) (l0_2 : List Int) (a1 : Bool) (a2_0 : ByteArray) (a2_1 : ByteArray) (a2_2 : ByteArray) (a2_3 : Int) (a2_4 : Int) (a2_5 : Int) (a2_6 : Int) (a2_7 : Bool) (a2_8 : Int) (l2_9 : List (S72)) (l2_10 : List (S110)) (l2_11 : List ByteArray) (l2_12 : List (S112)) (a2_13 : ByteArray) (a2_14 : Int) (a2_15 : Int) (a2_16 : Int) (l2_17 : List (S117)) (l2_18 : List (S74)) (l2_19 : List (S119)) (l2_20 : List (S121)) (l2_21 : List (S123)) (l2_22 : List (S125)) (a2_23 : Int) (a2_24 : Bool) (a2_25 : Int) (a2_26 : Int) (a2_27 : Int) (l2_28 : List (S127)) (a2_29 : Int) (a2_30 : ByteArray) (a2_31 : ByteArray) (a3 : Int) : Option (Bool) := if (a0_0 == a1) = true then ((netpolicy_admits.f k a0_0 l0_1 l0_2 a2_0 a2_1 a2_2 a2_3 a2_4 a2_5 a2_6 a2_7 a2_8 l2_9 l2_10 l2_11 l2_12 a2_13 a2_14 a2_15 a2_16 l2_17 l2_18 l2_19 l2_20 l2_21 l2_22 a2_23 a2_24 a2_25 a2_26 a2_27 l2_28 a2_29 a2_30 a2_31 a3).bind fun t162 => (some t162)) else (some false)
theorem netpolicy_open_1_1.mono : ∀ a0 a1 a2 a3 a4 a5 a6 a7 a8 a9 a10 a11 a12 a13 a14 a15 a16 a17 a18 a19 a20 a21 a22 a23 a24 a25 a26 a27 a28 a29 a30 a31 a32 a33 a34 a35 a36 k, LeO (netpolicy_open_1_1.f k a0 a1 a2 a3 a4 a5 a6 a7 a8 a9 a10 a11 a12 a13 a14 a15 a16 a17 a18 a19 a20 a21 a22 a23 a24 a25 a26 a27 a28 a29 a30 a31 a32 a33 a34 a35 a36) (netpolicy_open_1_1.f (k + 1) a0 a1 a2 a3 a4 a5 a6 a7 a8 a9 a10 a11 a12 a13 a14 a15 a16 a17 a18 a19 a20 a21 a22 a23 a24 a25 a26 a27 a28 a29 a30 a31 a32 a33 a34 a35 a36) := by
 intro a0 a1 a2 a3 a4 a5 a6 a7 a8 a9 a10 a11 a12 a13 a14 a15 a16 a17 a18 a19 a20 a21 a22 a23 a24 a25 a26 a27 a28 a29 a30 a31 a32 a33 a34 a35 a36 k
 unfold netpolicy_open_1_1.f
 repeat' first
   | (with_reducible exact netpolicy_admits.mono _ _ _ _ _ _ _ _ _ _ _ _ _ _ _ _ _ _ _ _ _ _ _ _ _ _ _ _ _ _ _ _ _ _ _ _ _)
   | (with_reducible exact LeO.refl _)
   | (with_reducible exact LeO.none _)
   | (with_reducible refine LeO.ite ?_ ?_)
   | (with_reducible refine LeO.bind ?_ (fun _ => ?_))
   | exact netpolicy_admits.mono _ _ _ _ _ _ _ _ _ _ _ _ _ _ _ _ _ _ _ _ _ _ _ _ _ _ _ _ _ _ _ _ _ _ _ _ _
   | exact LeO.none _
   | refine LeO.ite ?_ ?_
   | refine LeO.bind ?_ (fun _ => ?_)
set_option maxHeartbeats 8000000 in
set_option maxRecDepth 100000 in
theorem netpolicy_open_1_1.calls (k : Nat) (a0_0 : Bool) (A0_1 : Option Addr) (c0_1 : Nat) (l0_1 : List (S64)) (A0_2 : Option Addr) (c0_2 : Nat) (l0_2 : List Int) (g1_ : Nat) (a1 : Bool) (g2_ : Nat) (a2_0 : ByteArray) (a2_1 : ByteArray) (a2_2 : ByteArray) (a2_3 : Int) (a2_4 : Int) (a2_5 : Int) (a2_6 : Int) (a2_7 : Bool) (a2_8 : Int) (A2_9 : Option Addr) (c2_9 : Nat) (l2_9 : List (S72)) (A2_10 : Option Addr) (c2_10 : Nat) (l2_10 : List (S110)) (A2_11 : Option Addr) (c2_11 : Nat) (l2_11 : List ByteArray) (A2_12 : Option Addr) (c2_12 : Nat) (l2_12 : List (S112)) (a2_13 : ByteArray) (a2_14 : Int) (a2_15 : Int) (a2_16 : Int) (A2_17 : Option Addr) (c2_17 : Nat) (l2_17 : List (S117)) (A2_18 : Option Addr) (c2_18 : Nat) (l2_18 : List (S74)) (A2_19 : Option Addr) (c2_19 : Nat) (l2_19 : List (S119)) (A2_20 : Option Addr) (c2_20 : Nat) (l2_20 : List (S121)) (A2_21 : Option Addr) (c2_21 : Nat) (l2_21 : List (S123)) (A2_22 : Option Addr) (c2_22 : Nat) (l2_22 : List (S125)) (a2_23 : Int) (a2_24 : Bool) (a2_25 : Int) (a2_26 : Int) (a2_27 : Int) (A2_28 : Option Addr) (c2_28 : Nat) (l2_28 : List (S127)) (a2_29 : Int) (a2_30 : ByteArray) (a2_31 : ByteArray) (g3_ : Nat) (a3 : Int) (r : Bool) (w : World) (hr0_1 : Kd.C k64 w A0_1 l0_1.length l0_1) (hc0_1 : l0_1.length ≤ c0_1) (hr0_2 : Kd.C (Kd.int .i64) w A0_2 l0_2.length l0_2) (hc0_2 : l0_2.length ≤ c0_2) (hr2_9 : Kd.C k72 w A2_9 l2_9.length l2_9) (hc2_9 : l2_9.length ≤ c2_9) (hr2_10 : Kd.C k110 w A2_10 l2_10.length l2_10) (hc2_10 : l2_10.length ≤ c2_10) (hr2_11 : Kd.C Kd.string w A2_11 l2_11.length l2_11) (hc2_11 : l2_11.length ≤ c2_11) (hr2_12 : Kd.C k112 w A2_12 l2_12.length l2_12) (hc2_12 : l2_12.length ≤ c2_12) (hr2_17 : Kd.C k117 w A2_17 l2_17.length l2_17) (hc2_17 : l2_17.length ≤ c2_17) (hr2_18 : Kd.C k74 w A2_18 l2_18.length l2_18) (hc2_18 : l2_18.length ≤ c2_18) (hr2_19 : Kd.C k119 w A2_19 l2_19.length l2_19) (hc2_19 : l2_19.length ≤ c2_19) (hr2_20 : Kd.C k121 w A2_20 l2_20.length l2_20) (hc2_20 : l2_20.length ≤ c2_20) (hr2_21 : Kd.C k123 w A2_21 l2_21.length l2_21) (hc2_21 : l2_21.length ≤ c2_21) (hr2_22 : Kd.C k125 w A2_22 l2_22.length l2_22) (hc2_22 : l2_22.length ≤ c2_22) (hr2_28 : Kd.C k127 w A2_28 l2_28.length l2_28) (hc2_28 : l2_28.length ≤ c2_28) (hbx1 : w.heap[g1_]? = some (.cells #[.bool a1] 4 (0, 0))) (hbx2 : w.heap[g2_]? = some (.cells #[.string a2_0, .string a2_1, .string a2_2, .int .i64 a2_3, .int .i64 a2_4, .int .i64 a2_5, .int .i64 a2_6, .bool a2_7, .int .i64 a2_8, .slice A2_9 l2_9.length c2_9, .slice A2_10 l2_10.length c2_10, .slice A2_11 l2_11.length c2_11, .slice A2_12 l2_12.length c2_12, .string a2_13, .int .i64 a2_14, .int .i64 a2_15, .int .i64 a2_16, .slice A2_17 l2_17.length c2_17, .slice A2_18 l2_18.length c2_18, .slice A2_19 l2_19.length c2_19, .slice A2_20 l2_20.length c2_20, .slice A2_21 l2_21.length c2_21, .slice A2_22 l2_22.length c2_22, .int .i64 a2_23, .bool a2_24, .int .i64 a2_25, .int .i64 a2_26, .int .i64 a2_27, .slice A2_28 l2_28.length c2_28, .int .i64 a2_29, .string a2_30, .string a2_31] 41 (0, 0))) (hbx3 : w.heap[g3_]? = some (.cells #[.int .i64 a3] 3 (0, 0))) (hbn1_2 : g1_ ≠ g2_) (hbn1_3 : g1_ ≠ g3_) (hbn2_3 : g2_ ≠ g3_) (h : netpolicy_open_1_1.f k a0_0 l0_1 l0_2 a1 a2_0 a2_1 a2_2 a2_3 a2_4 a2_5 a2_6 a2_7 a2_8 l2_9 l2_10 l2_11 l2_12 a2_13 a2_14 a2_15 a2_16 l2_17 l2_18 l2_19 l2_20 l2_21 l2_22 a2_23 a2_24 a2_25 a2_26 a2_27 l2_28 a2_29 a2_30 a2_31 a3 = some r) :
  Calls Try.prog 32 #[.agg #[.bool a0_0, .slice A0_1 l0_1.length c0_1, .slice A0_2 l0_2.length c0_2], .pointer (some ⟨g1_, 0, none⟩), .pointer (some ⟨g2_, 0, none⟩), .pointer (some ⟨g3_, 0, none⟩)] w fun e w' => e = .returned (.bool r) ∧ Below w.heap.size w w' := by
 have hu58 := Try.underlying58
 have hu41 := Try.underlying41
 have HR0_1 := s_a hr0_1
 have HC0_1 := s_a hc0_1
 clear hr0_1 hc0_1
 have HR0_2 := s_a hr0_2
 have HC0_2 := s_a hc0_2
 clear hr0_2 hc0_2
 have HR2_9 := s_a hr2_9
 have HC2_9 := s_a hc2_9
 clear hr2_9 hc2_9
 have HR2_10 := s_a hr2_10
 have HC2_10 := s_a hc2_10
 clear hr2_10 hc2_10
 have HR2_11 := s_a hr2_11
 have HC2_11 := s_a hc2_11
 clear hr2_11 hc2_11
 have HR2_12 := s_a hr2_12
 have HC2_12 := s_a hc2_12
 clear hr2_12 hc2_12
 have HR2_17 := s_a hr2_17
 have HC2_17 := s_a hc2_17
 clear hr2_17 hc2_17
 have HR2_18 := s_a hr2_18
 have HC2_18 := s_a hc2_18
 clear hr2_18 hc2_18
 have HR2_19 := s_a hr2_19
 have HC2_19 := s_a hc2_19
 clear hr2_19 hc2_19
 have HR2_20 := s_a hr2_20
 have HC2_20 := s_a hc2_20
 clear hr2_20 hc2_20
 have HR2_21 := s_a hr2_21
 have HC2_21 := s_a hc2_21
 clear hr2_21 hc2_21
 have HR2_22 := s_a hr2_22
 have HC2_22 := s_a hc2_22
 clear hr2_22 hc2_22
 have HR2_28 := s_a hr2_28
 have HC2_28 := s_a hc2_28
 clear hr2_28 hc2_28
 have BK158 := s_a hbx1
 clear hbx1
 have BK159 := s_a hbx2
 clear hbx2
 have BK160 := s_a hbx3
 clear hbx3
 have NB158_159 := s_a hbn1_2
 have NB159_158 := s_a (Ne.symm hbn1_2)
 clear hbn1_2
 have NB158_160 := s_a hbn1_3
 have NB160_158 := s_a (Ne.symm hbn1_3)
 clear hbn1_3
 have NB159_160 := s_a hbn2_3
 have NB160_159 := s_a (Ne.symm hbn2_3)
 clear hbn2_3
 have HB := s_a (Below.refl w.heap.size w)
 have H : (if (a0_0 == a1) = true then ((netpolicy_admits.f k a0_0 l0_1 l0_2 a2_0 a2_1 a2_2 a2_3 a2_4 a2_5 a2_6 a2_7 a2_8 l2_9 l2_10 l2_11 l2_12 a2_13 a2_14 a2_15 a2_16 l2_17 l2_18 l2_19 l2_20 l2_21 l2_22 a2_23 a2_24 a2_25 a2_26 a2_27 l2_28 a2_29 a2_30 a2_31 a3).bind fun t162 => (some t162)) else (some false)) = some r := h
 clear h
 by_cases c5 : (a0_0 == a1) = true
 ·rw [if_pos c5] at H
  have c5b0 : (a0_0 == a1) = true := c5
  (try (have c5b1 : decide (a0_0 = a1) = true := by simpa using c5))
  (try (have c5b2 : (a0_0 == a1) = true := by simpa using c5))
  clear c5
  replace H := Option.bind_eq_some_iff.mp H
  obtain ⟨t162, A60, H⟩ := H
  replace H : (some t162) = some r := H
  have A6 := s_a A60
  clear A60
  obtain rfl := Option.some.inj H
  go_enter Try.func32, Try.ntmps32
  go_wp2_with (first | ((with_reducible refine gate_dst (N := 4) rfl ?_); refine box_event ?hg (N := 4) ?hd (cs := #[.bool a0_0, .slice A0_1 l0_1.length c0_1, .slice A0_2 l0_2.length c0_2]) (t := 58) ?hr ?_; (case hd => rfl); (case hg => rfl); (case hr => first | (go_simp; done) | (go_simp; rfl)); intro gb161 hg w7 hbox hb; have BK161 := s_a (hbox); have GW161 := s_a ((by rw [hg]; exact (below_size (by exact s_b HB.out)) : w.heap.size ≤ gb161)); have GE161 := s_a ((by rw [hg]; exact (below_size (by exact s_b HB.out)) : w.heap.size ≤ gb161)); have NB158_161 := s_a ((by rw [hg]; exact Nat.ne_of_lt (blk_lt (s_k BK158.out)) : g1_ ≠ gb161)); have NB161_158 := s_a ((by rw [hg]; exact Nat.ne_of_gt (blk_lt (s_k BK158.out)) : gb161 ≠ g1_)); have NB159_161 := s_a ((by rw [hg]; exact Nat.ne_of_lt (blk_lt (s_k BK159.out)) : g2_ ≠ gb161)); have NB161_159 := s_a ((by rw [hg]; exact Nat.ne_of_gt (blk_lt (s_k BK159.out)) : gb161 ≠ g2_)); have NB160_161 := s_a ((by rw [hg]; exact Nat.ne_of_lt (blk_lt (s_k BK160.out)) : g3_ ≠ gb161)); have NB161_160 := s_a ((by rw [hg]; exact Nat.ne_of_gt (blk_lt (s_k BK160.out)) : gb161 ≠ g3_)); replace BK158 := s_a (blk_below (s_k BK158.out) hb); replace BK159 := s_a (blk_below (s_k BK159.out) hb); replace BK160 := s_a (blk_below (s_k BK160.out) hb); replace HB := s_a (below_step (by exact s_b HB.out) hb); clear hb hbox hg; have hnb8 := NB161_158.out; have hnc8 := NB158_161.out; have hnb9 := NB161_159.out; have hnc9 := NB159_161.out; have hnb10 := NB161_160.out; have hnc10 := NB160_161.out; obtain ⟨hcz11_0, hcz11_1, hcz11_2⟩ := cells58 BK161.out; have hnb12 := NB158_159.out; have hnc12 := NB159_158.out; have hnb13 := NB158_160.out; have hnc13 := NB160_158.out; have hcz14_0 : w7.cell? ⟨g1_, 0, none⟩ = some (.bool a1) := (blk_cell BK158.out 0).trans rfl) | ((with_reducible refine gate_dst (N := 12) rfl ?_); (try (refine gate_guard (by rfl) ?_; dsimp only)); refine wpList_load_row rfl 41 (.tmp 2) rfl g2_ rfl 41 _ (0, 0) _ (s_k BK159.out) Try.underlying41 rfl sz41 ?_; have hnb15 := NB160_159.out; have hnc15 := NB159_160.out; have hcz16_0 : w7.cell? ⟨g3_, 0, none⟩ = some (.int .i64 a3) := (blk_cell BK160.out 0).trans rfl) | (go_at_call 33; (with_reducible refine (netpolicy_admits.calls k _ _ _ _ _ _ _ _ _ _ _ _ _ _ _ _ _ _ _ _ _ _ _ _ _ _ _ _ _ _ _ _ _ _ _ _ _ _ _ _ _ _ _ _ _ _ _ _ _ _ _ _ _ _ _ _ _ _ _ _ _ _ _ _ ?side1 ?side2 ?side3 ?side4 ?side5 ?side6 ?side7 ?side8 ?side9 ?side10 ?side11 ?side12 ?side13 ?side14 ?side15 ?side16 ?side17 ?side18 ?side19 ?side20 ?side21 ?side22 ?side23 ?side24 ?side25 ?side26 A6.out).mono ?_); (case side1 => exact s_D HR0_1.out HB.out); (case side2 => exact HC0_1.out); (case side3 => exact s_D HR0_2.out HB.out); (case side4 => exact HC0_2.out); (case side5 => exact s_D HR2_9.out HB.out); (case side6 => exact HC2_9.out); (case side7 => exact s_D HR2_10.out HB.out); (case side8 => exact HC2_10.out); (case side9 => exact s_D HR2_11.out HB.out); (case side10 => exact HC2_11.out); (case side11 => exact s_D HR2_12.out HB.out); (case side12 => exact HC2_12.out); (case side13 => exact s_D HR2_17.out HB.out); (case side14 => exact HC2_17.out); (case side15 => exact s_D HR2_18.out HB.out); (case side16 => exact HC2_18.out); (case side17 => exact s_D HR2_19.out HB.out); (case side18 => exact HC2_19.out); (case side19 => exact s_D HR2_20.out HB.out); (case side20 => exact HC2_20.out); (case side21 => exact s_D HR2_21.out HB.out); (case side22 => exact HC2_21.out); (case side23 => exact s_D HR2_22.out HB.out); (case side24 => exact HC2_22.out); (case side25 => exact s_D HR2_28.out HB.out); (case side26 => exact HC2_28.out); rintro e w17 ⟨rfl, hb⟩; (try clear A6); replace BK158 := s_a (blk_below (s_k BK158.out) hb); replace BK159 := s_a (blk_below (s_k BK159.out) hb); replace BK160 := s_a (blk_below (s_k BK160.out) hb); replace BK161 := s_a (blk_below (s_k BK161.out) hb); replace HB := s_a (below_step (by exact s_b HB.out) hb); (try clear hb)))
  go_ret
  exact ⟨by first | rfl | (simp [errW_none, errW_some] <;> rfl) | (simp [*, errW_none, errW_some] <;> rfl), by exact s_b HB.out⟩
 ·rw [if_neg c5] at H
  have c5b0 : (a0_0 == a1) = false := by simpa using c5
  (try (have c5b1 : decide (a0_0 = a1) = false := by simpa using c5))
  (try (have c5b2 : (a0_0 == a1) = false := by simpa using c5))
  (try (have c5b3 : ¬ (a0_0 = a1) := by simpa using c5))
  clear c5
  obtain rfl := Option.some.inj H
  go_enter Try.func32, Try.ntmps32
  go_wp2_with (first | ((with_reducible refine gate_dst (N := 4) rfl ?_); refine box_event ?hg (N := 4) ?hd (cs := #[.bool a0_0, .slice A0_1 l0_1.length c0_1, .slice A0_2 l0_2.length c0_2]) (t := 58) ?hr ?_; (case hd => rfl); (case hg => rfl); (case hr => first | (go_simp; done) | (go_simp; rfl)); intro gb161 hg w18 hbox hb; have BK161 := s_a (hbox); have GW161 := s_a ((by rw [hg]; exact (below_size (by exact s_b HB.out)) : w.heap.size ≤ gb161)); have GE161 := s_a ((by rw [hg]; exact (below_size (by exact s_b HB.out)) : w.heap.size ≤ gb161)); have NB158_161 := s_a ((by rw [hg]; exact Nat.ne_of_lt (blk_lt (s_k BK158.out)) : g1_ ≠ gb161)); have NB161_158 := s_a ((by rw [hg]; exact Nat.ne_of_gt (blk_lt (s_k BK158.out)) : gb161 ≠ g1_)); have NB159_161 := s_a ((by rw [hg]; exact Nat.ne_of_lt (blk_lt (s_k BK159.out)) : g2_ ≠ gb161)); have NB161_159 := s_a ((by rw [hg]; exact Nat.ne_of_gt (blk_lt (s_k BK159.out)) : gb161 ≠ g2_)); have NB160_161 := s_a ((by rw [hg]; exact Nat.ne_of_lt (blk_lt (s_k BK160.out)) : g3_ ≠ gb161)); have NB161_160 := s_a ((by rw [hg]; exact Nat.ne_of_gt (blk_lt (s_k BK160.out)) : gb161 ≠ g3_)); replace BK158 := s_a (blk_below (s_k BK158.out) hb); replace BK159 := s_a (blk_below (s_k BK159.out) hb); replace BK160 := s_a (blk_below (s_k BK160.out) hb); replace HB := s_a (below_step (by exact s_b HB.out) hb); clear hb hbox hg; have hnb19 := NB161_158.out; have hnc19 := NB158_161.out; have hnb20 := NB161_159.out; have hnc20 := NB159_161.out; have hnb21 := NB161_160.out; have hnc21 := NB160_161.out; obtain ⟨hcz22_0, hcz22_1, hcz22_2⟩ := cells58 BK161.out; have hnb23 := NB158_159.out; have hnc23 := NB159_158.out; have hnb24 := NB158_160.out; have hnc24 := NB160_158.out; have hcz25_0 : w18.cell? ⟨g1_, 0, none⟩ = some (.bool a1) := (blk_cell BK158.out 0).trans rfl))
  go_ret
  exact ⟨by first | rfl | (simp [errW_none, errW_some] <;> rfl) | (simp [*, errW_none, errW_some] <;> rfl), by exact s_b HB.out⟩
def api_PolicyRule_39_c32.l0 : Nat → List (S58) → Int → Int → Bool → ByteArray → ByteArray → ByteArray → Int → Int → Int → Int → Bool → Int → List (S72) → List (S110) → List ByteArray → List (S112) → ByteArray → Int → Int → Int → List (S117) → List (S74) → List (S119) → List (S121) → List (S123) → List (S125) → Int → Bool → Int → Int → Int → List (S127) → Int → ByteArray → ByteArray → Int → Option (Int)
 | 0, _, _, _, _, _, _, _, _, _, _, _, _, _, _, _, _, _, _, _, _, _, _, _, _, _, _, _, _, _, _, _, _, _, _, _, _, _ => none
 | k + 1, x0, x7, x8, x173000, x174000, x174001, x174002, x174003, x174004, x174005, x174006, x174007, x174008, x174009, x174010, x174011, x174012, x174013, x174014, x174015, x174016, x174017, x174018, x174019, x174020, x174021, x174022, x174023, x174024, x174025, x174026, x174027, x174028, x174029, x174030, x174031, x175000 => if x8 < x7 then (if 0 ≤ x8 then (if x8 < (x0.length : Int) then ((netpolicy_open_1_1.f k ((rd_T58 x0 x8).f0) ((rd_T58 x0 x8).f1) ((rd_T58 x0 x8).f2) x173000 x174000 x174001 x174002 x174003 x174004 x174005 x174006 x174007 x174008 x174009 x174010 x174011 x174012 x174013 x174014 x174015 x174016 x174017 x174018 x174019 x174020 x174021 x174022 x174023 x174024 x174025 x174026 x174027 x174028 x174029 x174030 x174031 x175000).bind fun t176 => (if t176 = true then (some x8) else (api_PolicyRule_39_c32.l0 k x0 x7 (wrap64 (x8 + 1)) x173000 x174000 x174001 x174002 x174003 x174004 x174005 x174006 x174007 x174008 x174009 x174010 x174011 x174012 x174013 x174014 x174015 x174016 x174017 x174018 x174019 x174020 x174021 x174022 x174023 x174024 x174025 x174026 x174027 x174028 x174029 x174030 x174031 x175000))) else (none)) else (none)) else (some (-1))
def api_PolicyRule_39_c32.f (k : Nat) (l0 : List (S58)) (a200 : Bool) (a201_0 : ByteArray) (a201_1 : ByteArray) (a201_2 : ByteArray) (a201_3 : Int) (a201_4 : Int) (a201_5 : Int) (a201_6 : Int) (a201_7 : Bool) (a201_8 : Int) (l201_9 : List (S72)) (l201_10 : List (S110)) (l201_11 : List ByteArray) (l201_12 : List (S112)) (a201_13 : ByteArray) (a201_14 : Int) (a201_15 : Int) (a201_16 : Int) (l201_17 : List (S117)) (l201_18 : List (S74)) (l201_19 : List (S119)) (l201_20 : List (S121)) (l201_21 : List (S123)) (l201_22 : List (S125)) (a201_23 : Int) (a201_24 : Bool) (a201_25 : Int) (a201_26 : Int) (a201_27 : Int) (l201_28 : List (S127)) (a201_29 : Int) (a201_30 : ByteArray) (a201_31 : ByteArray) (a202 : Int) : Option (Int) := api_PolicyRule_39_c32.l0 k l0 (l0.length : Int) 0 a200 a201_0 a201_1 a201_2 a201_3 a201_4 a201_5 a201_6 a201_7 a201_8 l201_9 l201_10 l201_11 l201_12 a201_13 a201_14 a201_15 a201_16 l201_17 l201_18 l201_19 l201_20 l201_21 l201_22 a201_23 a201_24 a201_25 a201_26 a201_27 l201_28 a201_29 a201_30 a201_31 a202
theorem api_PolicyRule_39_c32.mono_l : ∀ k, (∀ y0 y1 y2 y3 y4 y5 y6 y7 y8 y9 y10 y11 y12 y13 y14 y15 y16 y17 y18 y19 y20 y21 y22 y23 y24 y25 y26 y27 y28 y29 y30 y31 y32 y33 y34 y35 y36, LeO (api_PolicyRule_39_c32.l0 k y0 y1 y2 y3 y4 y5 y6 y7 y8 y9 y10 y11 y12 y13 y14 y15 y16 y17 y18 y19 y20 y21 y22 y23 y24 y25 y26 y27 y28 y29 y30 y31 y32 y33 y34 y35 y36) (api_PolicyRule_39_c32.l0 (k + 1) y0 y1 y2 y3 y4 y5 y6 y7 y8 y9 y10 y11 y12 y13 y14 y15 y16 y17 y18 y19 y20 y21 y22 y23 y24 y25 y26 y27 y28 y29 y30 y31 y32 y33 y34 y35 y36))
 | 0 => fun _ _ _ _ _ _ _ _ _ _ _ _ _ _ _ _ _ _ _ _ _ _ _ _ _ _ _ _ _ _ _ _ _ _ _ _ _ r h => by simp [api_PolicyRule_39_c32.l0] at h
 | k + 1 => by
  have ih0 := api_PolicyRule_39_c32.mono_l k
  ·intro y0 y1 y2 y3 y4 y5 y6 y7 y8 y9 y10 y11 y12 y13 y14 y15 y16 y17 y18 y19 y20 y21 y22 y23 y24 y25 y26 y27 y28 y29 y30 y31 y32 y33 y34 y35 y36
   unfold api_PolicyRule_39_c32.l0
   repeat' first
   | (with_reducible exact ih0 _ _ _ _ _ _ _ _ _ _ _ _ _ _ _ _ _ _ _ _ _ _ _ _ _ _ _ _ _ _ _ _ _ _ _ _ _)
   | (with_reducible exact netpolicy_open_1_1.mono _ _ _ _ _ _ _ _ _ _ _ _ _ _ _ _ _ _ _ _ _ _ _ _ _ _ _ _ _ _ _ _ _ _ _ _ _ _)
   | (with_reducible exact LeO.refl _)
   | (with_reducible exact LeO.none _)
   | (with_reducible refine LeO.ite ?_ ?_)
   | (with_reducible refine LeO.bind ?_ (fun _ => ?_))
   | exact ih0 _ _ _ _ _ _ _ _ _ _ _ _ _ _ _ _ _ _ _ _ _ _ _ _ _ _ _ _ _ _ _ _ _ _ _ _ _
   | exact netpolicy_open_1_1.mono _ _ _ _ _ _ _ _ _ _ _ _ _ _ _ _ _ _ _ _ _ _ _ _ _ _ _ _ _ _ _ _ _ _ _ _ _ _
   | exact LeO.none _
   | refine LeO.ite ?_ ?_
   | refine LeO.bind ?_ (fun _ => ?_)
theorem api_PolicyRule_39_c32.mono : ∀ a0 a1 a2 a3 a4 a5 a6 a7 a8 a9 a10 a11 a12 a13 a14 a15 a16 a17 a18 a19 a20 a21 a22 a23 a24 a25 a26 a27 a28 a29 a30 a31 a32 a33 a34 k, LeO (api_PolicyRule_39_c32.f k a0 a1 a2 a3 a4 a5 a6 a7 a8 a9 a10 a11 a12 a13 a14 a15 a16 a17 a18 a19 a20 a21 a22 a23 a24 a25 a26 a27 a28 a29 a30 a31 a32 a33 a34) (api_PolicyRule_39_c32.f (k + 1) a0 a1 a2 a3 a4 a5 a6 a7 a8 a9 a10 a11 a12 a13 a14 a15 a16 a17 a18 a19 a20 a21 a22 a23 a24 a25 a26 a27 a28 a29 a30 a31 a32 a33 a34) := by
 intro a0 a1 a2 a3 a4 a5 a6 a7 a8 a9 a10 a11 a12 a13 a14 a15 a16 a17 a18 a19 a20 a21 a22 a23 a24 a25 a26 a27 a28 a29 a30 a31 a32 a33 a34 k
 have ih0 := api_PolicyRule_39_c32.mono_l k
 unfold api_PolicyRule_39_c32.f
 repeat' first
   | (with_reducible exact ih0 _ _ _ _ _ _ _ _ _ _ _ _ _ _ _ _ _ _ _ _ _ _ _ _ _ _ _ _ _ _ _ _ _ _ _ _ _)
   | (with_reducible exact netpolicy_open_1_1.mono _ _ _ _ _ _ _ _ _ _ _ _ _ _ _ _ _ _ _ _ _ _ _ _ _ _ _ _ _ _ _ _ _ _ _ _ _ _)
   | (with_reducible exact LeO.refl _)
   | (with_reducible exact LeO.none _)
   | (with_reducible refine LeO.ite ?_ ?_)
   | (with_reducible refine LeO.bind ?_ (fun _ => ?_))
   | exact ih0 _ _ _ _ _ _ _ _ _ _ _ _ _ _ _ _ _ _ _ _ _ _ _ _ _ _ _ _ _ _ _ _ _ _ _ _ _
   | exact netpolicy_open_1_1.mono _ _ _ _ _ _ _ _ _ _ _ _ _ _ _ _ _ _ _ _ _ _ _ _ _ _ _ _ _ _ _ _ _ _ _ _ _ _
   | exact LeO.none _
   | refine LeO.ite ?_ ?_
   | refine LeO.bind ?_ (fun _ => ?_)
set_option maxHeartbeats 8000000 in
set_option maxRecDepth 100000 in
theorem api_PolicyRule_39_c32.calls (k : Nat) (A0 : Option Addr) (c0 : Nat) (l0 : List (S58)) (g200_ : Nat) (g201_ : Nat) (g202_ : Nat) (a200 : Bool) (a201_0 : ByteArray) (a201_1 : ByteArray) (a201_2 : ByteArray) (a201_3 : Int) (a201_4 : Int) (a201_5 : Int) (a201_6 : Int) (a201_7 : Bool) (a201_8 : Int) (A201_9 : Option Addr) (c201_9 : Nat) (l201_9 : List (S72)) (A201_10 : Option Addr) (c201_10 : Nat) (l201_10 : List (S110)) (A201_11 : Option Addr) (c201_11 : Nat) (l201_11 : List ByteArray) (A201_12 : Option Addr) (c201_12 : Nat) (l201_12 : List (S112)) (a201_13 : ByteArray) (a201_14 : Int) (a201_15 : Int) (a201_16 : Int) (A201_17 : Option Addr) (c201_17 : Nat) (l201_17 : List (S117)) (A201_18 : Option Addr) (c201_18 : Nat) (l201_18 : List (S74)) (A201_19 : Option Addr) (c201_19 : Nat) (l201_19 : List (S119)) (A201_20 : Option Addr) (c201_20 : Nat) (l201_20 : List (S121)) (A201_21 : Option Addr) (c201_21 : Nat) (l201_21 : List (S123)) (A201_22 : Option Addr) (c201_22 : Nat) (l201_22 : List (S125)) (a201_23 : Int) (a201_24 : Bool) (a201_25 : Int) (a201_26 : Int) (a201_27 : Int) (A201_28 : Option Addr) (c201_28 : Nat) (l201_28 : List (S127)) (a201_29 : Int) (a201_30 : ByteArray) (a201_31 : ByteArray) (a202 : Int) (r : Int) (w : World) (hr0 : Kd.C k58 w A0 l0.length l0) (hc0 : l0.length ≤ c0) (hr201_9 : Kd.C k72 w A201_9 l201_9.length l201_9) (hc201_9 : l201_9.length ≤ c201_9) (hr201_10 : Kd.C k110 w A201_10 l201_10.length l201_10) (hc201_10 : l201_10.length ≤ c201_10) (hr201_11 : Kd.C Kd.string w A201_11 l201_11.length l201_11) (hc201_11 : l201_11.length ≤ c201_11) (hr201_12 : Kd.C k112 w A201_12 l201_12.length l201_12) (hc201_12 : l201_12.length ≤ c201_12) (hr201_17 : Kd.C k117 w A201_17 l201_17.length l201_17) (hc201_17 : l201_17.length ≤ c201_17) (hr201_18 : Kd.C k74 w A201_18 l201_18.length l201_18) (hc201_18 : l201_18.length ≤ c201_18) (hr201_19 : Kd.C k119 w A201_19 l201_19.length l201_19) (hc201_19 : l201_19.length ≤ c201_19) (hr201_20 : Kd.C k121 w A201_20 l201_20.length l201_20) (hc201_20 : l201_20.length ≤ c201_20) (hr201_21 : Kd.C k123 w A201_21 l201_21.length l201_21) (hc201_21 : l201_21.length ≤ c201_21) (hr201_22 : Kd.C k125 w A201_22 l201_22.length l201_22) (hc201_22 : l201_22.length ≤ c201_22) (hr201_28 : Kd.C k127 w A201_28 l201_28.length l201_28) (hc201_28 : l201_28.length ≤ c201_28) (hbx200 : w.heap[g200_]? = some (.cells #[.bool a200] 4 (0, 0))) (hbx201 : w.heap[g201_]? = some (.cells #[.string a201_0, .string a201_1, .string a201_2, .int .i64 a201_3, .int .i64 a201_4, .int .i64 a201_5, .int .i64 a201_6, .bool a201_7, .int .i64 a201_8, .slice A201_9 l201_9.length c201_9, .slice A201_10 l201_10.length c201_10, .slice A201_11 l201_11.length c201_11, .slice A201_12 l201_12.length c201_12, .string a201_13, .int .i64 a201_14, .int .i64 a201_15, .int .i64 a201_16, .slice A201_17 l201_17.length c201_17, .slice A201_18 l201_18.length c201_18, .slice A201_19 l201_19.length c201_19, .slice A201_20 l201_20.length c201_20, .slice A201_21 l201_21.length c201_21, .slice A201_22 l201_22.length c201_22, .int .i64 a201_23, .bool a201_24, .int .i64 a201_25, .int .i64 a201_26, .int .i64 a201_27, .slice A201_28 l201_28.length c201_28, .int .i64 a201_29, .string a201_30, .string a201_31] 41 (0, 0))) (hbx202 : w.heap[g202_]? = some (.cells #[.int .i64 a202] 3 (0, 0))) (hbn200_201 : g200_ ≠ g201_) (hbn200_202 : g200_ ≠ g202_) (hbn201_202 : g201_ ≠ g202_) (h : api_PolicyRule_39_c32.f k l0 a200 a201_0 a201_1 a201_2 a201_3 a201_4 a201_5 a201_6 a201_7 a201_8 l201_9 l201_10 l201_11 l201_12 a201_13 a201_14 a201_15 a201_16 l201_17 l201_18 l201_19 l201_20 l201_21 l201_22 a201_23 a201_24 a201_25 a201_26 a201_27 l201_28 a201_29 a201_30 a201_31 a202 = some r) :
  Calls Try.prog 39 #[.slice A0 l0.length c0, .func (.func 32) #[] #[.pointer (some ⟨g200_, 0, none⟩), .pointer (some ⟨g201_, 0, none⟩), .pointer (some ⟨g202_, 0, none⟩)]] w fun e w' => e = .returned (.int .i64 r) ∧ Below w.heap.size w w' := by
 have hu58 := Try.underlying58
 have HR0 := s_a hr0
 have HC0 := s_a hc0
 clear hr0 hc0
 have HR201_9 := s_a hr201_9
 have HC201_9 := s_a hc201_9
 clear hr201_9 hc201_9
 have HR201_10 := s_a hr201_10
 have HC201_10 := s_a hc201_10
 clear hr201_10 hc201_10
 have HR201_11 := s_a hr201_11
 have HC201_11 := s_a hc201_11
 clear hr201_11 hc201_11
 have HR201_12 := s_a hr201_12
 have HC201_12 := s_a hc201_12
 clear hr201_12 hc201_12
 have HR201_17 := s_a hr201_17
 have HC201_17 := s_a hc201_17
 clear hr201_17 hc201_17
 have HR201_18 := s_a hr201_18
 have HC201_18 := s_a hc201_18
 clear hr201_18 hc201_18
 have HR201_19 := s_a hr201_19
 have HC201_19 := s_a hc201_19
 clear hr201_19 hc201_19
 have HR201_20 := s_a hr201_20
 have HC201_20 := s_a hc201_20
 clear hr201_20 hc201_20
 have HR201_21 := s_a hr201_21
 have HC201_21 := s_a hc201_21
 clear hr201_21 hc201_21
 have HR201_22 := s_a hr201_22
 have HC201_22 := s_a hc201_22
 clear hr201_22 hc201_22
 have HR201_28 := s_a hr201_28
 have HC201_28 := s_a hc201_28
 clear hr201_28 hc201_28
 have BK172 := s_a hbx200
 clear hbx200
 have BK173 := s_a hbx201
 clear hbx201
 have BK174 := s_a hbx202
 clear hbx202
 have NB172_173 := s_a hbn200_201
 have NB173_172 := s_a (Ne.symm hbn200_201)
 clear hbn200_201
 have NB172_174 := s_a hbn200_202
 have NB174_172 := s_a (Ne.symm hbn200_202)
 clear hbn200_202
 have NB173_174 := s_a hbn201_202
 have NB174_173 := s_a (Ne.symm hbn201_202)
 clear hbn201_202
 have HB := s_a (Below.refl w.heap.size w)
 have H := h; unfold api_PolicyRule_39_c32.f at H
 clear h
 have H' := s_a H
 clear H
 go_enter Try.func39, Try.ntmps39
 go_wp2
 go_loopg [8] k (fun kq v8 w' => ∃ (x8_1 : Int), v8 = .int .i64 x8_1 ∧ Aside0 (api_PolicyRule_39_c32.l0 kq l0 (l0.length : Int) x8_1 a200 a201_0 a201_1 a201_2 a201_3 a201_4 a201_5 a201_6 a201_7 a201_8 l201_9 l201_10 l201_11 l201_12 a201_13 a201_14 a201_15 a201_16 l201_17 l201_18 l201_19 l201_20 l201_21 l201_22 a201_23 a201_24 a201_25 a201_26 a201_27 l201_28 a201_29 a201_30 a201_31 a202 = some r) ∧ Aside0 (kq ≤ k) ∧ Aside0 (w'.heap[g200_]? = some (.cells #[.bool a200] 4 (0, 0))) ∧ Aside0 (w'.heap[g201_]? = some (.cells #[.string a201_0, .string a201_1, .string a201_2, .int .i64 a201_3, .int .i64 a201_4, .int .i64 a201_5, .int .i64 a201_6, .bool a201_7, .int .i64 a201_8, (.slice A201_9 l201_9.length c201_9), (.slice A201_10 l201_10.length c201_10), (.slice A201_11 l201_11.length c201_11), (.slice A201_12 l201_12.length c201_12), .string a201_13, .int .i64 a201_14, .int .i64 a201_15, .int .i64 a201_16, (.slice A201_17 l201_17.length c201_17), (.slice A201_18 l201_18.length c201_18), (.slice A201_19 l201_19.length c201_19), (.slice A201_20 l201_20.length c201_20), (.slice A201_21 l201_21.length c201_21), (.slice A201_22 l201_22.length c201_22), .int .i64 a201_23, .bool a201_24, .int .i64 a201_25, .int .i64 a201_26, .int .i64 a201_27, (.slice A201_28 l201_28.length c201_28), .int .i64 a201_29, .string a201_30, .string a201_31] 41 (0, 0))) ∧ Aside0 (w'.heap[g202_]? = some (.cells #[.int .i64 a202] 3 (0, 0))) ∧ Aside0 (Below w.heap.size w w'))
 case atStart => exact ⟨(0), (by first | rfl | (simp; done) | (simp [*]; done)), H', ⟨Nat.le_refl _⟩, ⟨by exact s_k BK172.out⟩, ⟨by exact s_k BK173.out⟩, ⟨by exact s_k BK174.out⟩, ⟨by exact s_b HB.out⟩⟩
 case round =>
  clear H'
  try clear c2
  try clear p2
  obtain ⟨x8_1, rfl, HA, HK1, BK172, BK173, BK174, HB⟩ := hrel
  cases gk with
  | zero => exact absurd HA.out (by simp [api_PolicyRule_39_c32.l0])
  | succ k1 =>
   have H := HA.out
   clear HA
   simp only [api_PolicyRule_39_c32.l0] at H
   by_cases c3 : x8_1 < (l0.length : Int)
   ·rw [if_pos c3] at H
    have c3b0 : decide (x8_1 < (l0.length : Int)) = true := decide_eq_true c3
    clear c3
    by_cases c4 : 0 ≤ x8_1
    ·rw [if_pos c4] at H
     have c4b0 : decide (0 ≤ x8_1) = true := decide_eq_true c4
     clear c4
     by_cases c5 : x8_1 < (l0.length : Int)
     ·rw [if_pos c5] at H
      have c5b0 : decide (x8_1 < (l0.length : Int)) = true := decide_eq_true c5
      clear c5
      replace H := Option.bind_eq_some_iff.mp H
      obtain ⟨t176, A60, H⟩ := H
      (try dsimp only at H)
      have A6 := s_a A60
      clear A60
      by_cases c7 : t176 = true
      ·subst c7
       (try rw [if_pos rfl] at H)
       obtain rfl := Option.some.inj H
       have p175 : 0 ≤ (x8_1 : Int) := of_decide_eq_true (by first | (with_reducible assumption) | assumption)
       have q175 : x8_1 < (l0.length : Int) := of_decide_eq_true (by first | (with_reducible assumption) | assumption)
       obtain ⟨ad175, A175_1, c175_1, A175_2, c175_2, e175, hx175_0, hx175_1, hx175_2, hl175_1, hi175_1, hl175_2, hi175_2⟩ := at_T58 HR0.out x8_1 p175 q175
       cases e175
       replace hx175_0 := s_m HB.out hx175_0
       replace hx175_1 := s_m HB.out hx175_1
       replace hx175_2 := s_m HB.out hx175_2
       have HR175_1 := s_a hi175_1
       have HC175_1 := s_a hl175_1
       clear hi175_1 hl175_1
       have HR175_2 := s_a hi175_2
       have HC175_2 := s_a hl175_2
       clear hi175_2 hl175_2
       replace p175 := eq_true p175
       replace q175 := eq_true q175
       go_wp2_with (first | (go_at_call 32; (with_reducible refine (netpolicy_open_1_1.calls k1 _ _ _ _ _ _ _ g200_ a200 g201_ a201_0 a201_1 a201_2 a201_3 a201_4 a201_5 a201_6 a201_7 a201_8 A201_9 c201_9 l201_9 A201_10 c201_10 l201_10 A201_11 c201_11 l201_11 A201_12 c201_12 l201_12 a201_13 a201_14 a201_15 a201_16 A201_17 c201_17 l201_17 A201_18 c201_18 l201_18 A201_19 c201_19 l201_19 A201_20 c201_20 l201_20 A201_21 c201_21 l201_21 A201_22 c201_22 l201_22 a201_23 a201_24 a201_25 a201_26 a201_27 A201_28 c201_28 l201_28 a201_29 a201_30 a201_31 g202_ a202 _ _ ?side1 ?side2 ?side3 ?side4 ?side5 ?side6 ?side7 ?side8 ?side9 ?side10 ?side11 ?side12 ?side13 ?side14 ?side15 ?side16 ?side17 ?side18 ?side19 ?side20 ?side21 ?side22 ?side23 ?side24 ?side25 ?side26 ?side27 ?side28 ?side29 ?side30 ?side31 ?side32 A6.out).mono ?_); (case side1 => exact s_D HR175_1.out HB.out); (case side2 => exact HC175_1.out); (case side3 => exact s_D HR175_2.out HB.out); (case side4 => exact HC175_2.out); (case side5 => exact s_D HR201_9.out HB.out); (case side6 => exact HC201_9.out); (case side7 => exact s_D HR201_10.out HB.out); (case side8 => exact HC201_10.out); (case side9 => exact s_D HR201_11.out HB.out); (case side10 => exact HC201_11.out); (case side11 => exact s_D HR201_12.out HB.out); (case side12 => exact HC201_12.out); (case side13 => exact s_D HR201_17.out HB.out); (case side14 => exact HC201_17.out); (case side15 => exact s_D HR201_18.out HB.out); (case side16 => exact HC201_18.out); (case side17 => exact s_D HR201_19.out HB.out); (case side18 => exact HC201_19.out); (case side19 => exact s_D HR201_20.out HB.out); (case side20 => exact HC201_20.out); (case side21 => exact s_D HR201_21.out HB.out); (case side22 => exact HC201_21.out); (case side23 => exact s_D HR201_22.out HB.out); (case side24 => exact HC201_22.out); (case side25 => exact s_D HR201_28.out HB.out); (case side26 => exact HC201_28.out); (case side27 => exact (by exact s_k BK172.out)); (case side28 => exact (by exact s_k BK173.out)); (case side29 => exact (by exact s_k BK174.out)); (case side30 => exact NB172_173.out); (case side31 => exact NB172_174.out); (case side32 => exact NB173_174.out); rintro e w8 ⟨rfl, hb⟩; (try clear A6); replace BK172 := s_a (blk_below (s_k BK172.out) hb); replace BK173 := s_a (blk_below (s_k BK173.out) hb); replace BK174 := s_a (blk_below (s_k BK174.out) hb); replace HB := s_a (below_step (by exact s_b HB.out) hb); (try clear hb)))
       go_ret
       exact ⟨by first | rfl | (simp [errW_none, errW_some] <;> rfl) | (simp [*, errW_none, errW_some] <;> rfl), by exact s_b HB.out⟩
      ·replace c7 := Bool.eq_false_iff.mpr c7
       subst c7
       (try rw [if_neg (show ¬ (false = true) by decide)] at H)
       have H' := s_a H
       clear H
       have p175 : 0 ≤ (x8_1 : Int) := of_decide_eq_true (by first | (with_reducible assumption) | assumption)
       have q175 : x8_1 < (l0.length : Int) := of_decide_eq_true (by first | (with_reducible assumption) | assumption)
       obtain ⟨ad175, A175_1, c175_1, A175_2, c175_2, e175, hx175_0, hx175_1, hx175_2, hl175_1, hi175_1, hl175_2, hi175_2⟩ := at_T58 HR0.out x8_1 p175 q175
       cases e175
       replace hx175_0 := s_m HB.out hx175_0
       replace hx175_1 := s_m HB.out hx175_1
       replace hx175_2 := s_m HB.out hx175_2
       have HR175_1 := s_a hi175_1
       have HC175_1 := s_a hl175_1
       clear hi175_1 hl175_1
       have HR175_2 := s_a hi175_2
       have HC175_2 := s_a hl175_2
       clear hi175_2 hl175_2
       replace p175 := eq_true p175
       replace q175 := eq_true q175
       go_wp2_with (first | (go_at_call 32; (with_reducible refine (netpolicy_open_1_1.calls k1 _ _ _ _ _ _ _ g200_ a200 g201_ a201_0 a201_1 a201_2 a201_3 a201_4 a201_5 a201_6 a201_7 a201_8 A201_9 c201_9 l201_9 A201_10 c201_10 l201_10 A201_11 c201_11 l201_11 A201_12 c201_12 l201_12 a201_13 a201_14 a201_15 a201_16 A201_17 c201_17 l201_17 A201_18 c201_18 l201_18 A201_19 c201_19 l201_19 A201_20 c201_20 l201_20 A201_21 c201_21 l201_21 A201_22 c201_22 l201_22 a201_23 a201_24 a201_25 a201_26 a201_27 A201_28 c201_28 l201_28 a201_29 a201_30 a201_31 g202_ a202 _ _ ?side1 ?side2 ?side3 ?side4 ?side5 ?side6 ?side7 ?side8 ?side9 ?side10 ?side11 ?side12 ?side13 ?side14 ?side15 ?side16 ?side17 ?side18 ?side19 ?side20 ?side21 ?side22 ?side23 ?side24 ?side25 ?side26 ?side27 ?side28 ?side29 ?side30 ?side31 ?side32 A6.out).mono ?_); (case side1 => exact s_D HR175_1.out HB.out); (case side2 => exact HC175_1.out); (case side3 => exact s_D HR175_2.out HB.out); (case side4 => exact HC175_2.out); (case side5 => exact s_D HR201_9.out HB.out); (case side6 => exact HC201_9.out); (case side7 => exact s_D HR201_10.out HB.out); (case side8 => exact HC201_10.out); (case side9 => exact s_D HR201_11.out HB.out); (case side10 => exact HC201_11.out); (case side11 => exact s_D HR201_12.out HB.out); (case side12 => exact HC201_12.out); (case side13 => exact s_D HR201_17.out HB.out); (case side14 => exact HC201_17.out); (case side15 => exact s_D HR201_18.out HB.out); (case side16 => exact HC201_18.out); (case side17 => exact s_D HR201_19.out HB.out); (case side18 => exact HC201_19.out); (case side19 => exact s_D HR201_20.out HB.out); (case side20 => exact HC201_20.out); (case side21 => exact s_D HR201_21.out HB.out); (case side22 => exact HC201_21.out); (case side23 => exact s_D HR201_22.out HB.out); (case side24 => exact HC201_22.out); (case side25 => exact s_D HR201_28.out HB.out); (case side26 => exact HC201_28.out); (case side27 => exact (by exact s_k BK172.out)); (case side28 => exact (by exact s_k BK173.out)); (case side29 => exact (by exact s_k BK174.out)); (case side30 => exact NB172_173.out); (case side31 => exact NB172_174.out); (case side32 => exact NB173_174.out); rintro e w9 ⟨rfl, hb⟩; (try clear A6); replace BK172 := s_a (blk_below (s_k BK172.out) hb); replace BK173 := s_a (blk_below (s_k BK173.out) hb); replace BK174 := s_a (blk_below (s_k BK174.out) hb); replace HB := s_a (below_step (by exact s_b HB.out) hb); (try clear hb)))
       go_roundg k1
       case measure => have := HK1.out; omega
       case rel => exact ⟨(wrap64 (x8_1 + 1)), (by first | rfl | (simp; done) | (simp [*]; done)), H', ⟨by have := HK1.out; omega⟩, ⟨by exact s_k BK172.out⟩, ⟨by exact s_k BK173.out⟩, ⟨by exact s_k BK174.out⟩, ⟨by exact s_b HB.out⟩⟩
     ·rw [if_neg c5] at H
      exact absurd H (by simp)
    ·rw [if_neg c4] at H
     exact absurd H (by simp)
   ·rw [if_neg c3] at H
    have c3b0 : decide (x8_1 < (l0.length : Int)) = false := decide_eq_false c3
    clear c3
    obtain rfl := Option.some.inj H
    go_wp2
    go_ret
    exact ⟨by first | rfl | (simp [errW_none, errW_some] <;> rfl) | (simp [*, errW_none, errW_some] <;> rfl), by exact s_b HB.out⟩
end Go.Proofs.Ytkdikhonafbgdaa.Q
