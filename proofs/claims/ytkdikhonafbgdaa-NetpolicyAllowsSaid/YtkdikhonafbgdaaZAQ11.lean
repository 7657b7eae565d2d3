/- Part of a claim: see its row. Conditions: stated at each. -/
import Derived.Test.YtkdikhonafbgdaaZAQ0
import Derived.Test.YtkdikhonafbgdaaZAQ9
namespace Go.Proofs.Ytkdikhonafbgdaa.Q
open Go.RowKit Go.Proofs.YtkdikhonafbgdaaW.PrintWords Go.Proofs.YtkdikhonafbgdaaW.PrintLast Go.Proofs.YtkdikhonafbgdaaW.PrintMore Go.Proofs.Ytkdikhonafbgdaa.Sh
attribute [local go_sem] max2_int min2_int max_two min_two max_three min_three max_four min_four
set_option linter.unusedVariables false
set_option linter.unusedSimpArgs false
def orchestratorref57_peer.l0 : Nat → List (S64) → Int → ByteArray → ByteArray → ByteArray → Int → Int → Int → Int → Bool → Int → List (S72) → List (S110) → List ByteArray → List (S112) → ByteArray → Int → Int → Int → List (S117) → List (S74) → List (S119) → List (S121) → List (S123) → List (S125) → Int → Bool → Int → Int → Int → List (S127) → Int → ByteArray → ByteArray → Option (Bool)
 | 0, _, _, _, _, _, _, _, _, _, _, _, _, _, _, _, _, _, _, _, _, _, _, _, _, _, _, _, _, _, _, _, _, _, _ => none
 | k + 1, x0, x5, x457000, x457001, x457002, x457003, x457004, x457005, x457006, x457007, x457008, x457009, x457010, x457011, x457012, x457013, x457014, x457015, x457016, x457017, x457018, x457019, x457020, x457021, x457022, x457023, x457024, x457025, x457026, x457027, x457028, x457029, x457030, x457031 => if x5 < (x0.length : Int) then (if 0 ≤ x5 then (if ((rd_T64 x0 x5).f0).toList = ([] : List UInt8) then ((orchestratorref03_Matches.f k ((rd_T64 x0 x5).f1) x457009).bind fun t459 => (if t459 = true then (some true) else (orchestratorref57_peer.l0 k x0 (wrap64 (x5 + 1)) x457000 x457001 x457002 x457003 x457004 x457005 x457006 x457007 x457008 x457009 x457010 x457011 x457012 x457013 x457014 x457015 x457016 x457017 x457018 x457019 x457020 x457021 x457022 x457023 x457024 x457025 x457026 x457027 x457028 x457029 x457030 x457031))) else (if ((rd_T64 x0 x5).f0).toList = x457001.toList then ((orchestratorref03_Matches.f k ((rd_T64 x0 x5).f1) x457009).bind fun t462 => (if t462 = true then (some true) else (orchestratorref57_peer.l0 k x0 (wrap64 (x5 + 1)) x457000 x457001 x457002 x457003 x457004 x457005 x457006 x457007 x457008 x457009 x457010 x457011 x457012 x457013 x457014 x457015 x457016 x457017 x457018 x457019 x457020 x457021 x457022 x457023 x457024 x457025 x457026 x457027 x457028 x457029 x457030 x457031))) else (orchestratorref57_peer.l0 k x0 (wrap64 (x5 + 1)) x457000 x457001 x457002 x457003 x457004 x457005 x457006 x457007 x457008 x457009 x457010 x457011 x457012 x457013 x457014 x457015 x457016 x457017 x457018 x457019 x457020 x457021 x457022 x457023 x457024 x457025 x457026 x457027 x457028 x457029 x457030 x457031))) else (none)) else (some ((x0.length : Int) == 0))
def orchestratorref57_peer.f (k : Nat) (l0 : List (S64)) (a1_0 : ByteArray) (a1_1 : ByteArray) (a1_2 : ByteArray) (a1_3 : Int) (a1_4 : Int) (a1_5 : Int) (a1_6 : Int) (a1_7 : Bool) (a1_8 : Int) (l1_9 : List (S72)) (l1_10 : List (S110)) (l1_11 : List ByteArray) (l1_12 : List (S112)) (a1_13 : ByteArray) (a1_14 : Int) (a1_15 : Int) (a1_16 : Int) (l1_17 : List (S117)) (l1_18 : List (S74)) (l1_19 : List (S119)) (l1_20 : List (S121)) (l1_21 : List (S123)) (l1_22 : List (S125)) (a1_23 : Int) (a1_24 : Bool) (a1_25 : Int) (a1_26 : Int) (a1_27 : Int) (l1_28 : List (S127)) (a1_29 : Int) (a1_30 : ByteArray) (a1_31 : ByteArray) : Option (Bool) := orchestratorref57_peer.l0 k l0 0 a1_0 a1_1 a1_2 a1_3 a1_4 a1_5 a1_6 a1_7 a1_8 l1_9 l1_10 l1_11 l1_12 a1_13 a1_14 a1_15 a1_16 l1_17 l1_18 l1_19 l1_20 l1_21 l1_22 a1_23 a1_24 a1_25 a1_26 a1_27 l1_28 a1_29 a1_30 a1_31
theorem orchestratorref57_peer.mono_l : ∀ k, (∀ y0 y1 y2 y3 y4 y5 y6 y7 y8 y9 y10 y11 y12 y13 y14 y15 y16 y17 y18 y19 y20 y21 y22 y23 y24 y25 y26 y27 y28 y29 y30 y31 y32 y33, LeO (orchestratorref57_peer.l0 k y0 y1 y2 y3 y4 y5 y6 y7 y8 y9 y10 y11 y12 y13 y14 y15 y16 y17 y18 y19 y20 y21 y22 y23 y24 y25 y26 y27 y28 y29 y30 y31 y32 y33) (orchestratorref57_peer.l0 (k + 1) y0 y1 y2 y3 y4 y5 y6 y7 y8 y9 y10 y11 y12 y13 y14 y15 y16 y17 y18 y19 y20 y21 y22 y23 y24 y25 y26 y27 y28 y29 y30 y31 y32 y33))
 | 0 => fun _ _ _ _ _ _ _ _ _ _ _ _ _ _ _ _ _ _ _ _ _ _ _ _ _ _ _ _ _ _ _ _ _ _ r h => by simp [orchestratorref57_peer.l0] at h
 | k + 1 => by
  have ih0 := orchestratorref57_peer.mono_l k
  ·intro y0 y1 y2 y3 y4 y5 y6 y7 y8 y9 y10 y11 y12 y13 y14 y15 y16 y17 y18 y19 y20 y21 y22 y23 y24 y25 y26 y27 y28 y29 y30 y31 y32 y33
   unfold orchestratorref57_peer.l0
   repeat' first
   | (with_reducible exact ih0 _ _ _ _ _ _ _ _ _ _ _ _ _ _ _ _ _ _ _ _ _ _ _ _ _ _ _ _ _ _ _ _ _ _)
   | (with_reducible exact orchestratorref03_Matches.mono _ _ _)
   | (with_reducible exact LeO.refl _)
   | (with_reducible exact LeO.none _)
   | (with_reducible refine LeO.ite ?_ ?_)
   | (with_reducible refine LeO.bind ?_ (fun _ => ?_))
   | exact ih0 _ _ _ _ _ _ _ _ _ _ _ _ _ _ _ _ _ _ _ _ _ _ _ _ _ _ _ _ _ _ _ _ _ _
   | exact orchestratorref03_Matches.mono _ _ _
   | exact LeO.none _
   | refine LeO.ite ?_ ?_
   | refine LeO.bind ?_ (fun _ => ?_)
theorem orchestratorref57_peer.mono : ∀ a0 a1 a2 a3 a4 a5 a6 a7 a8 a9 a10 a11 a12 a13 a14 a15 a16 a17 a18 a19 a20 a21 a22 a23 a24 a25 a26 a27 a28 a29 a30 a31 a32 k, LeO (orchestratorref57_peer.f k a0 a1 a2 a3 a4 a5 a6 a7 a8 a9 a10 a11 a12 a13 a14 a15 a16 a17 a18 a19 a20 a21 a22 a23 a24 a25 a26 a27 a28 a29 a30 a31 a32) (orchestratorref57_peer.f (k + 1) a0 a1 a2 a3 a4 a5 a6 a7 a8 a9 a10 a11 a12 a13 a14 a15 a16 a17 a18 a19 a20 a21 a22 a23 a24 a25 a26 a27 a28 a29 a30 a31 a32) := by
 intro a0 a1 a2 a3 a4 a5 a6 a7 a8 a9 a10 a11 a12 a13 a14 a15 a16 a17 a18 a19 a20 a21 a22 a23 a24 a25 a26 a27 a28 a29 a30 a31 a32 k
 have ih0 := orchestratorref57_peer.mono_l k
 unfold orchestratorref57_peer.f
 repeat' first
   | (with_reducible exact ih0 _ _ _ _ _ _ _ _ _ _ _ _ _ _ _ _ _ _ _ _ _ _ _ _ _ _ _ _ _ _ _ _ _ _)
   | (with_reducible exact orchestratorref03_Matches.mono _ _ _)
   | (with_reducible exact LeO.refl _)
   | (with_reducible exact LeO.none _)
   | (with_reducible refine LeO.ite ?_ ?_)
   | (with_reducible refine LeO.bind ?_ (fun _ => ?_))
   | exact ih0 _ _ _ _ _ _ _ _ _ _ _ _ _ _ _ _ _ _ _ _ _ _ _ _ _ _ _ _ _ _ _ _ _ _
   | exact orchestratorref03_Matches.mono _ _ _
   | exact LeO.none _
   | refine LeO.ite ?_ ?_
   | refine LeO.bind ?_ (fun _ => ?_)
def orchestratorref57_peer.T4 : Bool × List (List Nat × List Nat) := (true, [([], []), ([], []), ([0, 1], [0, 1]), ([2], [2]), ([3], [3]), ([4], [4]), ([5], [5]), ([6], [6]), ([6], [6]), ([7, 8, 6], [6, 7, 8]), ([9, 6], [6, 9]), ([10, 6], [6, 10]), ([6], [6]), ([12, 6], [6, 12]), ([13, 6], [6, 13]), ([11, 14, 6], [6, 11, 14]), ([6, 15], [6, 15]), ([16, 6], [16]), ([17], [17]), ([17], [17]), ([18, 19, 17], [17, 18, 19]), ([20, 17], [17, 20]), ([21, 17], [17, 21]), ([17], [17]), ([23, 17], [17, 23]), ([24, 17], [17, 24]), ([22, 25, 17, 17], [17, 22, 25]), ([17, 26], [17, 26])])
def orchestratorref57_peer.B4 : List Nat := [0, 0, 3, 7, 15, 31, 63, 127, 127, 511, 1023, 2047, 127, 4223, 12415, 32767, 65535, 131071, 262143, 262143, 1048575, 2097151, 4194303, 262143, 8650751, 25427967, 67108863, 134217727]
theorem orchestratorref57_peer.tab4 : rtab .any (opsOf Try.f35 4) = orchestratorref57_peer.T4 := by kernel_rfl
theorem orchestratorref57_peer.bits4 : waitsOk orchestratorref57_peer.T4.2 orchestratorref57_peer.B4 = true := by kernel_rfl
set_option maxHeartbeats 8000000 in
set_option maxRecDepth 100000 in
theorem orchestratorref57_peer.calls (k : Nat) (A0 : Option Addr) (c0 : Nat) (l0 : List (S64)) (a1_0 : ByteArray) (a1_1 : ByteArray) (a1_2 : ByteArray) (a1_3 : Int) (a1_4 : Int) (a1_5 : Int) (a1_6 : Int) (a1_7 : Bool) (a1_8 : Int) (A1_9 : Option Addr) (c1_9 : Nat) (l1_9 : List (S72)) (A1_10 : Option Addr) (c1_10 : Nat) (l1_10 : List (S110)) (A1_11 : Option Addr) (c1_11 : Nat) (l1_11 : List ByteArray) (A1_12 : Option Addr) (c1_12 : Nat) (l1_12 : List (S112)) (a1_13 : ByteArray) (a1_14 : Int) (a1_15 : Int) (a1_16 : Int) (A1_17 : Option Addr) (c1_17 : Nat) (l1_17 : List (S117)) (A1_18 : Option Addr) (c1_18 : Nat) (l1_18 : List (S74)) (A1_19 : Option Addr) (c1_19 : Nat) (l1_19 : List (S119)) (A1_20 : Option Addr) (c1_20 : Nat) (l1_20 : List (S121)) (A1_21 : Option Addr) (c1_21 : Nat) (l1_21 : List (S123)) (A1_22 : Option Addr) (c1_22 : Nat) (l1_22 : List (S125)) (a1_23 : Int) (a1_24 : Bool) (a1_25 : Int) (a1_26 : Int) (a1_27 : Int) (A1_28 : Option Addr) (c1_28 : Nat) (l1_28 : List (S127)) (a1_29 : Int) (a1_30 : ByteArray) (a1_31 : ByteArray) (r : Bool) (w : World) (hr0 : Kd.C k64 w A0 l0.length l0) (hc0 : l0.length ≤ c0) (hr1_9 : Kd.C k72 w A1_9 l1_9.length l1_9) (hc1_9 : l1_9.length ≤ c1_9) (hr1_10 : Kd.C k110 w A1_10 l1_10.length l1_10) (hc1_10 : l1_10.length ≤ c1_10) (hr1_11 : Kd.C Kd.string w A1_11 l1_11.length l1_11) (hc1_11 : l1_11.length ≤ c1_11) (hr1_12 : Kd.C k112 w A1_12 l1_12.length l1_12) (hc1_12 : l1_12.length ≤ c1_12) (hr1_17 : Kd.C k117 w A1_17 l1_17.length l1_17) (hc1_17 : l1_17.length ≤ c1_17) (hr1_18 : Kd.C k74 w A1_18 l1_18.length l1_18) (hc1_18 : l1_18.length ≤ c1_18) (hr1_19 : Kd.C k119 w A1_19 l1_19.length l1_19) (hc1_19 : l1_19.length ≤ c1_19) (hr1_20 : Kd.C k121 w A1_20 l1_20.length l1_20) (hc1_20 : l1_20.length ≤ c1_20) (hr1_21 : Kd.C k123 w A1_21 l1_21.length l1_21) (hc1_21 : l1_21.length ≤ c1_21) (hr1_22 : Kd.C k125 w A1_22 l1_22.length l1_22) (hc1_22 : l1_22.length ≤ c1_22) (hr1_28 : Kd.C k127 w A1_28 l1_28.length l1_28) (hc1_28 : l1_28.length ≤ c1_28) (h : orchestratorref57_peer.f k l0 a1_0 a1_1 a1_2 a1_3 a1_4 a1_5 a1_6 a1_7 a1_8 l1_9 l1_10 l1_11 l1_12 a1_13 a1_14 a1_15 a1_16 l1_17 l1_18 l1_19 l1_20 l1_21 l1_22 a1_23 a1_24 a1_25 a1_26 a1_27 l1_28 a1_29 a1_30 a1_31 = some r) :
  Calls Try.prog 35 #[.slice A0 l0.length c0, .agg #[.string a1_0, .string a1_1, .string a1_2, .int .i64 a1_3, .int .i64 a1_4, .int .i64 a1_5, .int .i64 a1_6, .bool a1_7, .int .i64 a1_8, .slice A1_9 l1_9.length c1_9, .slice A1_10 l1_10.length c1_10, .slice A1_11 l1_11.length c1_11, .slice A1_12 l1_12.length c1_12, .string a1_13, .int .i64 a1_14, .int .i64 a1_15, .int .i64 a1_16, .slice A1_17 l1_17.length c1_17, .slice A1_18 l1_18.length c1_18, .slice A1_19 l1_19.length c1_19, .slice A1_20 l1_20.length c1_20, .slice A1_21 l1_21.length c1_21, .slice A1_22 l1_22.length c1_22, .int .i64 a1_23, .bool a1_24, .int .i64 a1_25, .int .i64 a1_26, .int .i64 a1_27, .slice A1_28 l1_28.length c1_28, .int .i64 a1_29, .string a1_30, .string a1_31]] w fun e w' => e = .returned (.bool r) ∧ Below w.heap.size w w' := by
 have hu41 := Try.underlying41
 have HR0 := s_a hr0
 have HC0 := s_a hc0
 clear hr0 hc0
 have HR1_9 := s_a hr1_9
 have HC1_9 := s_a hc1_9
 clear hr1_9 hc1_9
 have HR1_10 := s_a hr1_10
 have HC1_10 := s_a hc1_10
 clear hr1_10 hc1_10
 have HR1_11 := s_a hr1_11
 have HC1_11 := s_a hc1_11
 clear hr1_11 hc1_11
 have HR1_12 := s_a hr1_12
 have HC1_12 := s_a hc1_12
 clear hr1_12 hc1_12
 have HR1_17 := s_a hr1_17
 have HC1_17 := s_a hc1_17
 clear hr1_17 hc1_17
 have HR1_18 := s_a hr1_18
 have HC1_18 := s_a hc1_18
 clear hr1_18 hc1_18
 have HR1_19 := s_a hr1_19
 have HC1_19 := s_a hc1_19
 clear hr1_19 hc1_19
 have HR1_20 := s_a hr1_20
 have HC1_20 := s_a hc1_20
 clear hr1_20 hc1_20
 have HR1_21 := s_a hr1_21
 have HC1_21 := s_a hc1_21
 clear hr1_21 hc1_21
 have HR1_22 := s_a hr1_22
 have HC1_22 := s_a hc1_22
 clear hr1_22 hc1_22
 have HR1_28 := s_a hr1_28
 have HC1_28 := s_a hc1_28
 clear hr1_28 hc1_28
 have HB := s_a (Below.refl w.heap.size w)
 have H : (orchestratorref57_peer.l0 k l0 0 a1_0 a1_1 a1_2 a1_3 a1_4 a1_5 a1_6 a1_7 a1_8 l1_9 l1_10 l1_11 l1_12 a1_13 a1_14 a1_15 a1_16 l1_17 l1_18 l1_19 l1_20 l1_21 l1_22 a1_23 a1_24 a1_25 a1_26 a1_27 l1_28 a1_29 a1_30 a1_31) = some r := h
 clear h
 have H' := s_a H
 clear H
 go_enter Try.func35, Try.ntmps35
 go_wp2_with (first | ((with_reducible refine gate_dst (N := 3) rfl ?_); refine box_event ?hg (N := 3) ?hd (cs := #[.string a1_0, .string a1_1, .string a1_2, .int .i64 a1_3, .int .i64 a1_4, .int .i64 a1_5, .int .i64 a1_6, .bool a1_7, .int .i64 a1_8, .slice A1_9 l1_9.length c1_9, .slice A1_10 l1_10.length c1_10, .slice A1_11 l1_11.length c1_11, .slice A1_12 l1_12.length c1_12, .string a1_13, .int .i64 a1_14, .int .i64 a1_15, .int .i64 a1_16, .slice A1_17 l1_17.length c1_17, .slice A1_18 l1_18.length c1_18, .slice A1_19 l1_19.length c1_19, .slice A1_20 l1_20.length c1_20, .slice A1_21 l1_21.length c1_21, .slice A1_22 l1_22.length c1_22, .int .i64 a1_23, .bool a1_24, .int .i64 a1_25, .int .i64 a1_26, .int .i64 a1_27, .slice A1_28 l1_28.length c1_28, .int .i64 a1_29, .string a1_30, .string a1_31]) (t := 41) ?hr ?_; (case hd => rfl); (case hg => rfl); (case hr => first | (go_simp; done) | (go_simp; rfl)); intro gb456 hg w3 hbox hb; have BK456 := s_a (hbox); have GW456 := s_a ((by rw [hg]; exact (below_size (by exact s_b HB.out)) : w.heap.size ≤ gb456)); have GE456 := s_a ((by rw [hg]; exact (below_size (by exact s_b HB.out)) : w.heap.size ≤ gb456)); replace HB := s_a (below_step (by exact s_b HB.out) hb); clear hb hbox hg))
 go_loopg [5] k (fun kq v5 w' => ∃ (x5_1 : Int), v5 = .int .i64 x5_1 ∧ Aside0 (orchestratorref57_peer.l0 kq l0 x5_1 a1_0 a1_1 a1_2 a1_3 a1_4 a1_5 a1_6 a1_7 a1_8 l1_9 l1_10 l1_11 l1_12 a1_13 a1_14 a1_15 a1_16 l1_17 l1_18 l1_19 l1_20 l1_21 l1_22 a1_23 a1_24 a1_25 a1_26 a1_27 l1_28 a1_29 a1_30 a1_31 = some r) ∧ Aside0 (kq ≤ k) ∧ Aside0 (w'.heap[gb456]? = some (.cells #[.string a1_0, .string a1_1, .string a1_2, .int .i64 a1_3, .int .i64 a1_4, .int .i64 a1_5, .int .i64 a1_6, .bool a1_7, .int .i64 a1_8, (.slice A1_9 l1_9.length c1_9), (.slice A1_10 l1_10.length c1_10), (.slice A1_11 l1_11.length c1_11), (.slice A1_12 l1_12.length c1_12), .string a1_13, .int .i64 a1_14, .int .i64 a1_15, .int .i64 a1_16, (.slice A1_17 l1_17.length c1_17), (.slice A1_18 l1_18.length c1_18), (.slice A1_19 l1_19.length c1_19), (.slice A1_20 l1_20.length c1_20), (.slice A1_21 l1_21.length c1_21), (.slice A1_22 l1_22.length c1_22), .int .i64 a1_23, .bool a1_24, .int .i64 a1_25, .int .i64 a1_26, .int .i64 a1_27, (.slice A1_28 l1_28.length c1_28), .int .i64 a1_29, .string a1_30, .string a1_31] 41 (0, 0))) ∧ Aside0 (Below w.heap.size w w'))
 case atStart => exact ⟨(0), (by first | rfl | (simp; done) | (simp [*]; done)), H', ⟨Nat.le_refl _⟩, ⟨by exact s_k BK456.out⟩, ⟨by exact s_b HB.out⟩⟩
 case round =>
  clear H'
  try clear c1
  try clear p2
  try clear c3
  obtain ⟨x5_1, rfl, HA, HK1, BK456, HB⟩ := hrel
  cases gk with
  | zero => exact absurd HA.out (by simp [orchestratorref57_peer.l0])
  | succ k1 =>
   have H := HA.out
   clear HA
   simp only [orchestratorref57_peer.l0] at H
   by_cases c4 : x5_1 < (l0.length : Int)
   ·rw [if_pos c4] at H
    have c4b0 : decide (x5_1 < (l0.length : Int)) = true := decide_eq_true c4
    clear c4
    by_cases c5 : 0 ≤ x5_1
    ·rw [if_pos c5] at H
     have c5b0 : decide (0 ≤ x5_1) = true := decide_eq_true c5
     clear c5
     by_cases c6 : ((rd_T64 l0 x5_1).f0).toList = ([] : List UInt8)
     ·rw [if_pos c6] at H
      have c6b0 : (((rd_T64 l0 x5_1).f0).toList == ([] : List UInt8)) = true := beq_iff_eq.mpr c6
      have c6b1 : (((rd_T64 l0 x5_1).f0).toList != ([] : List UInt8)) = false := bne_eq_false_iff_eq.mpr c6
      clear c6
      replace H := Option.bind_eq_some_iff.mp H
      obtain ⟨t459, A70, H⟩ := H
      replace H : (if t459 = true then (some true) else (orchestratorref57_peer.l0 k1 l0 (wrap64 (x5_1 + 1)) a1_0 a1_1 a1_2 a1_3 a1_4 a1_5 a1_6 a1_7 a1_8 l1_9 l1_10 l1_11 l1_12 a1_13 a1_14 a1_15 a1_16 l1_17 l1_18 l1_19 l1_20 l1_21 l1_22 a1_23 a1_24 a1_25 a1_26 a1_27 l1_28 a1_29 a1_30 a1_31)) = some r := H
      have A7 := s_a A70
      clear A70
      by_cases c8 : t459 = true
      ·subst c8
       (try rw [if_pos rfl] at H)
       obtain rfl := Option.some.inj H
       try go_wp2
       replace BK456 := s_a (blk_drew BK456.out)
       replace HB := s_a (below_drew1 HB.out)
       have p457 : 0 ≤ (x5_1 : Int) := of_decide_eq_true (by first | (with_reducible assumption) | assumption)
       have q457 : x5_1 < (l0.length : Int) := of_decide_eq_true (by first | (with_reducible assumption) | assumption)
       obtain ⟨ad457, A457_1, c457_1, e457, hx457_0, hx457_1, hl457_1, hi457_1⟩ := at_T64 HR0.out x5_1 p457 q457
       have hw457_1 := hx457_1
       have hw457_0 := hx457_0
       cases e457
       replace hx457_0 := s_m HB.out hx457_0
       replace hx457_1 := s_m HB.out hx457_1
       have HR457_1 := s_a hi457_1
       have HC457_1 := s_a hl457_1
       clear hi457_1 hl457_1
       replace p457 := eq_true p457
       replace q457 := eq_true q457
       have p458 : 0 ≤ (x5_1 : Int) := of_decide_eq_true (by first | (with_reducible assumption) | assumption)
       have q458 : x5_1 < (l0.length : Int) := of_decide_eq_true (by first | (with_reducible assumption) | assumption)
       obtain ⟨ad458, A458_1, c458_1, e458, hx458_0, hx458_1, hl458_1, hi458_1⟩ := at_T64 HR0.out x5_1 p458 q458
       have hw458_1 := hx458_1
       have hw458_0 := hx458_0
       obtain rfl : ad457 = ad458 := (by injection e458)
       replace hx458_0 := s_m HB.out hx458_0
       replace hx458_1 := s_m HB.out hx458_1
       have HR458_1 := s_a hi458_1
       have HC458_1 := s_a hl458_1
       clear hi458_1 hl458_1
       replace p458 := eq_true p458
       replace q458 := eq_true q458
       have ea_ := Option.some.inj (hx457_1.symm.trans hx458_1)
       injection ea_ with ea_ en_ ec_
       subst ea_
       subst ec_
       clear en_
       refine start_ (n := 28) (S := fun w' => w'.cell? ⟨gb456, 9, none⟩ = some (.slice A1_9 l1_9.length c1_9) ∧ w'.cell? (ad457.add ((x5_1).toNat * 2)) = some (.string ((rd_T64 l0 x5_1).f0)) ∧ w'.cell? ⟨(ad457.add ((x5_1).toNat * 2)).block, (ad457.add ((x5_1).toNat * 2)).off + 1, none⟩ = some (.slice A457_1 ((rd_T64 l0 x5_1).f1).length c457_1) ∧ w'.cell? (ad457.add ((x5_1).toNat * 2)) = some (.string ((rd_T64 l0 x5_1).f0)) ∧ w'.cell? ⟨(ad457.add ((x5_1).toNat * 2)).block, (ad457.add ((x5_1).toNat * 2)).off + 1, none⟩ = some (.slice A457_1 ((rd_T64 l0 x5_1).f1).length c457_1)) (ds := []) (bz 28 0) (by kernel_rfl) rfl rfl ⟨s_x BK456.out 9, (s_m HB.out hw457_0), (s_m HB.out hw457_1), (s_m HB.out hw458_0), (s_m HB.out hw458_1)⟩ (fun hHeld => ?_); refine with_tabW orchestratorref57_peer.tab4 orchestratorref57_peer.bits4 (fun HT_ HW_ => ?_)
       generalize wr.drew = w9 at BK456 HB HR457_1 HR458_1 hx457_0 hx457_1 hx458_0 hx458_1 hHeld ⊢
       refine q_p 0 (some 12) (bz 28 1) (any_of HT_.out (by kernel_rfl)) (v := ?_) ?_ (a' := ?_) ?_ ?_; rotate_left 2
       ·intro w'; go_simp; with_reducible rfl
       ·simp only [Act.put, List.setIfInBounds_toArray, List.set_cons_zero, List.set_cons_succ, i64_w, i32_w]; rfl
       refine q_p 1 (some 13) (bz 28 3) (any_of HT_.out (by kernel_rfl)) (v := ?_) ?_ (a' := ?_) ?_ ?_; rotate_left 2
       ·intro w'; go_simp; with_reducible rfl
       ·simp only [Act.put, List.setIfInBounds_toArray, List.set_cons_zero, List.set_cons_succ, i64_w, i32_w]; rfl
       refine q_p 2 (some 14) (bz 28 7) (any_of HT_.out (by kernel_rfl)) (v := ?_) ?_ (a' := ?_) ?_ ?_; rotate_left 2
       ·intro w'; go_simp; with_reducible rfl
       ·simp only [Act.put, List.setIfInBounds_toArray, List.set_cons_zero, List.set_cons_succ, i64_w, i32_w]; rfl
       refine q_p 3 (some 15) (bz 28 15) (any_of HT_.out (by kernel_rfl)) (v := ?_) ?_ (a' := ?_) ?_ ?_; rotate_left 2
       ·intro w'; go_simp; with_reducible rfl
       ·simp only [Act.put, List.setIfInBounds_toArray, List.set_cons_zero, List.set_cons_succ, i64_w, i32_w]; rfl
       refine q_t 4 (some 16) (bz 28 31) (take_ofW HT_.out HW_.out (by kernel_rfl)) hHeld (v := ?_) ?_ (a' := ?_) ?_ ?_; rotate_left 2
       ·rintro w' ⟨s0, s1, s2, s3, s4⟩; go_simp; with_reducible rfl
       ·simp only [Act.put, List.setIfInBounds_toArray, List.set_cons_zero, List.set_cons_succ, i64_w, i32_w]; rfl
       refine q_p 5 (some 17) (bz 28 63) (any_of HT_.out (by kernel_rfl)) (v := ?_) ?_ (a' := ?_) ?_ ?_; rotate_left 2
       ·intro w'; go_simp; with_reducible rfl
       ·simp only [Act.put, List.setIfInBounds_toArray, List.set_cons_zero, List.set_cons_succ, i64_w, i32_w]; rfl
       refine q_p 6 (some 18) (bz 28 127) (any_of HT_.out (by kernel_rfl)) (v := ?_) ?_ (a' := ?_) ?_ ?_; rotate_left 2
       ·intro w'; go_simp; with_reducible rfl
       ·simp only [Act.put, List.setIfInBounds_toArray, List.set_cons_zero, List.set_cons_succ, i64_w, i32_w]; rfl
       refine q_o 7 (some 19) (bz 28 255) (any_of HT_.out (by kernel_rfl)) (a' := ?_) ?_ ?_; rotate_left
       ·simp only [Act.put, List.setIfInBounds_toArray, List.set_cons_zero, List.set_cons_succ, i64_w, i32_w]; rfl
       refine q_o 8 (some 20) (bz 28 511) (any_of HT_.out (by kernel_rfl)) (a' := ?_) ?_ ?_; rotate_left
       ·simp only [Act.put, List.setIfInBounds_toArray, List.set_cons_zero, List.set_cons_succ, i64_w, i32_w]; rfl
       refine q_o 9 (some 21) (bz 28 1023) (any_of HT_.out (by kernel_rfl)) (a' := ?_) ?_ ?_; rotate_left
       ·simp only [Act.put, List.setIfInBounds_toArray, List.set_cons_zero, List.set_cons_succ, i64_w, i32_w]; rfl
       refine q_o 10 (some 22) (bz 28 2047) (any_of HT_.out (by kernel_rfl)) (a' := ?_) ?_ ?_; rotate_left
       ·simp only [Act.put, List.setIfInBounds_toArray, List.set_cons_zero, List.set_cons_succ, i64_w, i32_w]; rfl
       refine q_o 11 (some 23) (bz 28 4095) (any_of HT_.out (by kernel_rfl)) (a' := ?_) ?_ ?_; rotate_left
       ·simp only [Act.put, List.setIfInBounds_toArray, List.set_cons_zero, List.set_cons_succ, i64_w, i32_w]; rfl
       refine q_o 12 (some 24) (bz 28 8191) (any_of HT_.out (by kernel_rfl)) (a' := ?_) ?_ ?_; rotate_left
       ·simp only [Act.put, List.setIfInBounds_toArray, List.set_cons_zero, List.set_cons_succ, i64_w, i32_w]; rfl
       refine q_o 13 (some 25) (bz 28 16383) (any_of HT_.out (by kernel_rfl)) (a' := ?_) ?_ ?_; rotate_left
       ·simp only [Act.put, List.setIfInBounds_toArray, List.set_cons_zero, List.set_cons_succ, i64_w, i32_w]; rfl
       refine q_o 14 (some 26) (bz 28 32767) (any_of HT_.out (by kernel_rfl)) (a' := ?_) ?_ ?_; rotate_left
       ·simp only [Act.put, List.setIfInBounds_toArray, List.set_cons_zero, List.set_cons_succ, i64_w, i32_w]; rfl
       refine q_o 15 (some 27) (bz 28 65535) (any_of HT_.out (by kernel_rfl)) (a' := ?_) ?_ ?_; rotate_left
       ·simp only [Act.put, List.setIfInBounds_toArray, List.set_cons_zero, List.set_cons_succ, i64_w, i32_w]; rfl
       refine q_p 16 (some 28) (bz 28 131071) (any_of HT_.out (by kernel_rfl)) (v := ?_) ?_ (a' := ?_) ?_ ?_; rotate_left 2
       ·intro w'; go_simp; with_reducible rfl
       ·simp only [Act.put, List.setIfInBounds_toArray, List.set_cons_zero, List.set_cons_succ, i64_w, i32_w]; rfl
       refine q_p 17 (some 29) (bz 28 262143) (any_of HT_.out (by kernel_rfl)) (v := ?_) ?_ (a' := ?_) ?_ ?_; rotate_left 2
       ·intro w'; go_simp; with_reducible rfl
       ·simp only [Act.put, List.setIfInBounds_toArray, List.set_cons_zero, List.set_cons_succ, i64_w, i32_w]; rfl
       refine q_p 18 (some 30) (bz 28 524287) (any_of HT_.out (by kernel_rfl)) (v := ?_) ?_ (a' := ?_) ?_ ?_; rotate_left 2
       ·intro w'; go_simp; with_reducible rfl
       ·simp only [Act.put, List.setIfInBounds_toArray, List.set_cons_zero, List.set_cons_succ, i64_w, i32_w]; rfl
       refine q_p 19 (some 31) (bz 28 1048575) (any_of HT_.out (by kernel_rfl)) (v := ?_) ?_ (a' := ?_) ?_ ?_; rotate_left 2
       ·intro w'; go_simp; with_reducible rfl
       ·simp only [Act.put, List.setIfInBounds_toArray, List.set_cons_zero, List.set_cons_succ, i64_w, i32_w]; rfl
       refine q_p 20 (some 32) (bz 28 2097151) (any_of HT_.out (by kernel_rfl)) (v := ?_) ?_ (a' := ?_) ?_ ?_; rotate_left 2
       ·intro w'; go_simp; with_reducible rfl
       ·simp only [Act.put, List.setIfInBounds_toArray, List.set_cons_zero, List.set_cons_succ, i64_w, i32_w]; rfl
       refine q_p 21 (some 33) (bz 28 4194303) (any_of HT_.out (by kernel_rfl)) (v := ?_) ?_ (a' := ?_) ?_ ?_; rotate_left 2
       ·intro w'; go_simp; with_reducible rfl
       ·simp only [Act.put, List.setIfInBounds_toArray, List.set_cons_zero, List.set_cons_succ, i64_w, i32_w]; rfl
       refine q_p 23 (some 35) (bz 28 12582911) (any_of HT_.out (by kernel_rfl)) (v := ?_) ?_ (a' := ?_) ?_ ?_; rotate_left 2
       ·intro w'; go_simp; with_reducible rfl
       ·simp only [Act.put, List.setIfInBounds_toArray, List.set_cons_zero, List.set_cons_succ, i64_w, i32_w]; rfl
       refine q_p 24 (some 36) (bz 28 29360127) (any_of HT_.out (by kernel_rfl)) (v := ?_) ?_ (a' := ?_) ?_ ?_; rotate_left 2
       ·intro w'; go_simp; with_reducible rfl
       ·simp only [Act.put, List.setIfInBounds_toArray, List.set_cons_zero, List.set_cons_succ, i64_w, i32_w]; rfl
       refine q_t 22 (some 34) (bz 28 33554431) (take_ofW HT_.out HW_.out (by kernel_rfl)) hHeld (v := ?_) ?_ (a' := ?_) ?_ ?_; rotate_left 2
       ·rintro w' ⟨s0, s1, s2, s3, s4⟩; go_simp; with_reducible rfl
       ·simp only [Act.put, List.setIfInBounds_toArray, List.set_cons_zero, List.set_cons_succ, i64_w, i32_w]; rfl
       refine q_t 25 (some 37) (bz 28 67108863) (take_ofW HT_.out HW_.out (by kernel_rfl)) hHeld (v := ?_) ?_ (a' := ?_) ?_ ?_; rotate_left 2
       ·rintro w' ⟨s0, s1, s2, s3, s4⟩; go_simp; with_reducible rfl
       ·simp only [Act.put, List.setIfInBounds_toArray, List.set_cons_zero, List.set_cons_succ, i64_w, i32_w]; rfl
       refine one_ (i := 26) (N := some 38) (bz 28 134217727) rfl rfl (one_of HT_.out (by kernel_rfl)) (by decide) (fun K hK => ?_)
       refine goes_ Try.func28 (by kernel_rfl) rfl #[.slice A457_1 ((rd_T64 l0 x5_1).f1).length c457_1, .slice A1_9 l1_9.length c1_9] (by rfl) rfl rfl (by (try simp only [List.map_toArray, List.map_cons, List.map_nil]); first | done | rfl | (simp only [List.length_drop, List.length_take]; rfl)) ?_
       with_reducible refine (orchestratorref03_Matches.calls k1 _ _ _ _ _ _ _ _ ?side1 ?side2 ?side3 ?side4 A7.out).mono ?_
       (case side1 => exact s_D HR458_1.out HB.out)
       (case side2 => exact HC458_1.out)
       (case side3 => exact s_D HR1_9.out HB.out)
       (case side4 => exact HC1_9.out)
       rintro e w10 ⟨rfl, hb⟩
       refine ⟨_, rfl, ?_⟩
       replace BK456 := s_a (blk_below (s_k BK456.out) hb)
       replace HB := s_a (below_step (by exact s_b HB.out) hb)
       (try clear hb)
       refine hK.out _ _ ⟨s_x BK456.out 9, (s_m HB.out hw457_0), (s_m HB.out hw457_1), (s_m HB.out hw458_0), (s_m HB.out hw458_1)⟩ (fun hHeld => ?_)
       clear hK K
       refine norm_ (a' := ?_) ?_ ?_
       rotate_left
       ·show Act.put _ (some 38) _ = _
        simp only [Act.put, List.setIfInBounds_toArray, List.set_cons_zero, List.set_cons_succ, i64_w, i32_w]
        rfl
       refine q_p 27 (some 39) (bz 28 268435455) (any_of HT_.out (by kernel_rfl)) (v := ?_) ?_ (a' := ?_) ?_ ?_; rotate_left 2
       ·intro w'; go_simp; with_reducible rfl
       ·simp only [Act.put, List.setIfInBounds_toArray, List.set_cons_zero, List.set_cons_succ, i64_w, i32_w]; rfl
       refine done_ (done_of HT_.out (by kernel_rfl)) ?_
       try go_wp2
       go_ret
       exact ⟨by first | rfl | (simp [errW_none, errW_some] <;> rfl) | (simp [*, errW_none, errW_some] <;> rfl), by exact s_b HB.out⟩
      ·replace c8 := Bool.eq_false_iff.mpr c8
       subst c8
       (try rw [if_neg (show ¬ (false = true) by decide)] at H)
       have H' := s_a H
       clear H
       try go_wp2
       replace BK456 := s_a (blk_drew BK456.out)
       replace HB := s_a (below_drew1 HB.out)
       have p457 : 0 ≤ (x5_1 : Int) := of_decide_eq_true (by first | (with_reducible assumption) | assumption)
       have q457 : x5_1 < (l0.length : Int) := of_decide_eq_true (by first | (with_reducible assumption) | assumption)
       obtain ⟨ad457, A457_1, c457_1, e457, hx457_0, hx457_1, hl457_1, hi457_1⟩ := at_T64 HR0.out x5_1 p457 q457
       have hw457_1 := hx457_1
       have hw457_0 := hx457_0
       cases e457
       replace hx457_0 := s_m HB.out hx457_0
       replace hx457_1 := s_m HB.out hx457_1
       have HR457_1 := s_a hi457_1
       have HC457_1 := s_a hl457_1
       clear hi457_1 hl457_1
       replace p457 := eq_true p457
       replace q457 := eq_true q457
       have p458 : 0 ≤ (x5_1 : Int) := of_decide_eq_true (by first | (with_reducible assumption) | assumption)
       have q458 : x5_1 < (l0.length : Int) := of_decide_eq_true (by first | (with_reducible assumption) | assumption)
       obtain ⟨ad458, A458_1, c458_1, e458, hx458_0, hx458_1, hl458_1, hi458_1⟩ := at_T64 HR0.out x5_1 p458 q458
       have hw458_1 := hx458_1
       have hw458_0 := hx458_0
       obtain rfl : ad457 = ad458 := (by injection e458)
       replace hx458_0 := s_m HB.out hx458_0
       replace hx458_1 := s_m HB.out hx458_1
       have HR458_1 := s_a hi458_1
       have HC458_1 := s_a hl458_1
       clear hi458_1 hl458_1
       replace p458 := eq_true p458
       replace q458 := eq_true q458
       have ea_ := Option.some.inj (hx457_1.symm.trans hx458_1)
       injection ea_ with ea_ en_ ec_
       subst ea_
       subst ec_
       clear en_
       refine start_ (n := 28) (S := fun w' => w'.cell? ⟨gb456, 9, none⟩ = some (.slice A1_9 l1_9.length c1_9) ∧ w'.cell? (ad457.add ((x5_1).toNat * 2)) = some (.string ((rd_T64 l0 x5_1).f0)) ∧ w'.cell? ⟨(ad457.add ((x5_1).toNat * 2)).block, (ad457.add ((x5_1).toNat * 2)).off + 1, none⟩ = some (.slice A457_1 ((rd_T64 l0 x5_1).f1).length c457_1) ∧ w'.cell? (ad457.add ((x5_1).toNat * 2)) = some (.string ((rd_T64 l0 x5_1).f0)) ∧ w'.cell? ⟨(ad457.add ((x5_1).toNat * 2)).block, (ad457.add ((x5_1).toNat * 2)).off + 1, none⟩ = some (.slice A457_1 ((rd_T64 l0 x5_1).f1).length c457_1)) (ds := []) (bz 28 0) (by kernel_rfl) rfl rfl ⟨s_x BK456.out 9, (s_m HB.out hw457_0), (s_m HB.out hw457_1), (s_m HB.out hw458_0), (s_m HB.out hw458_1)⟩ (fun hHeld => ?_); refine with_tabW orchestratorref57_peer.tab4 orchestratorref57_peer.bits4 (fun HT_ HW_ => ?_)
       generalize wr.drew = w11 at BK456 HB HR457_1 HR458_1 hx457_0 hx457_1 hx458_0 hx458_1 hHeld ⊢
       refine q_p 0 (some 12) (bz 28 1) (any_of HT_.out (by kernel_rfl)) (v := ?_) ?_ (a' := ?_) ?_ ?_; rotate_left 2
       ·intro w'; go_simp; with_reducible rfl
       ·simp only [Act.put, List.setIfInBounds_toArray, List.set_cons_zero, List.set_cons_succ, i64_w, i32_w]; rfl
       refine q_p 1 (some 13) (bz 28 3) (any_of HT_.out (by kernel_rfl)) (v := ?_) ?_ (a' := ?_) ?_ ?_; rotate_left 2
       ·intro w'; go_simp; with_reducible rfl
       ·simp only [Act.put, List.setIfInBounds_toArray, List.set_cons_zero, List.set_cons_succ, i64_w, i32_w]; rfl
       refine q_p 2 (some 14) (bz 28 7) (any_of HT_.out (by kernel_rfl)) (v := ?_) ?_ (a' := ?_) ?_ ?_; rotate_left 2
       ·intro w'; go_simp; with_reducible rfl
       ·simp only [Act.put, List.setIfInBounds_toArray, List.set_cons_zero, List.set_cons_succ, i64_w, i32_w]; rfl
       refine q_p 3 (some 15) (bz 28 15) (any_of HT_.out (by kernel_rfl)) (v := ?_) ?_ (a' := ?_) ?_ ?_; rotate_left 2
       ·intro w'; go_simp; with_reducible rfl
       ·simp only [Act.put, List.setIfInBounds_toArray, List.set_cons_zero, List.set_cons_succ, i64_w, i32_w]; rfl
       refine q_t 4 (some 16) (bz 28 31) (take_ofW HT_.out HW_.out (by kernel_rfl)) hHeld (v := ?_) ?_ (a' := ?_) ?_ ?_; rotate_left 2
       ·rintro w' ⟨s0, s1, s2, s3, s4⟩; go_simp; with_reducible rfl
       ·simp only [Act.put, List.setIfInBounds_toArray, List.set_cons_zero, List.set_cons_succ, i64_w, i32_w]; rfl
       refine q_p 5 (some 17) (bz 28 63) (any_of HT_.out (by kernel_rfl)) (v := ?_) ?_ (a' := ?_) ?_ ?_; rotate_left 2
       ·intro w'; go_simp; with_reducible rfl
       ·simp only [Act.put, List.setIfInBounds_toArray, List.set_cons_zero, List.set_cons_succ, i64_w, i32_w]; rfl
       refine q_p 6 (some 18) (bz 28 127) (any_of HT_.out (by kernel_rfl)) (v := ?_) ?_ (a' := ?_) ?_ ?_; rotate_left 2
       ·intro w'; go_simp; with_reducible rfl
       ·simp only [Act.put, List.setIfInBounds_toArray, List.set_cons_zero, List.set_cons_succ, i64_w, i32_w]; rfl
       refine q_o 7 (some 19) (bz 28 255) (any_of HT_.out (by kernel_rfl)) (a' := ?_) ?_ ?_; rotate_left
       ·simp only [Act.put, List.setIfInBounds_toArray, List.set_cons_zero, List.set_cons_succ, i64_w, i32_w]; rfl
       refine q_o 8 (some 20) (bz 28 511) (any_of HT_.out (by kernel_rfl)) (a' := ?_) ?_ ?_; rotate_left
       ·simp only [Act.put, List.setIfInBounds_toArray, List.set_cons_zero, List.set_cons_succ, i64_w, i32_w]; rfl
       refine q_o 9 (some 21) (bz 28 1023) (any_of HT_.out (by kernel_rfl)) (a' := ?_) ?_ ?_; rotate_left
       ·simp only [Act.put, List.setIfInBounds_toArray, List.set_cons_zero, List.set_cons_succ, i64_w, i32_w]; rfl
       refine q_o 10 (some 22) (bz 28 2047) (any_of HT_.out (by kernel_rfl)) (a' := ?_) ?_ ?_; rotate_left
       ·simp only [Act.put, List.setIfInBounds_toArray, List.set_cons_zero, List.set_cons_succ, i64_w, i32_w]; rfl
       refine q_o 11 (some 23) (bz 28 4095) (any_of HT_.out (by kernel_rfl)) (a' := ?_) ?_ ?_; rotate_left
       ·simp only [Act.put, List.setIfInBounds_toArray, List.set_cons_zero, List.set_cons_succ, i64_w, i32_w]; rfl
       refine q_o 12 (some 24) (bz 28 8191) (any_of HT_.out (by kernel_rfl)) (a' := ?_) ?_ ?_; rotate_left
       ·simp only [Act.put, List.setIfInBounds_toArray, List.set_cons_zero, List.set_cons_succ, i64_w, i32_w]; rfl
       refine q_o 13 (some 25) (bz 28 16383) (any_of HT_.out (by kernel_rfl)) (a' := ?_) ?_ ?_; rotate_left
       ·simp only [Act.put, List.setIfInBounds_toArray, List.set_cons_zero, List.set_cons_succ, i64_w, i32_w]; rfl
       refine q_o 14 (some 26) (bz 28 32767) (any_of HT_.out (by kernel_rfl)) (a' := ?_) ?_ ?_; rotate_left
       ·simp only [Act.put, List.setIfInBounds_toArray, List.set_cons_zero, List.set_cons_succ, i64_w, i32_w]; rfl
       refine q_o 15 (some 27) (bz 28 65535) (any_of HT_.out (by kernel_rfl)) (a' := ?_) ?_ ?_; rotate_left
       ·simp only [Act.put, List.setIfInBounds_toArray, List.set_cons_zero, List.set_cons_succ, i64_w, i32_w]; rfl
       refine q_p 16 (some 28) (bz 28 131071) (any_of HT_.out (by kernel_rfl)) (v := ?_) ?_ (a' := ?_) ?_ ?_; rotate_left 2
       ·intro w'; go_simp; with_reducible rfl
       ·simp only [Act.put, List.setIfInBounds_toArray, List.set_cons_zero, List.set_cons_succ, i64_w, i32_w]; rfl
       refine q_p 17 (some 29) (bz 28 262143) (any_of HT_.out (by kernel_rfl)) (v := ?_) ?_ (a' := ?_) ?_ ?_; rotate_left 2
       ·intro w'; go_simp; with_reducible rfl
       ·simp only [Act.put, List.setIfInBounds_toArray, List.set_cons_zero, List.set_cons_succ, i64_w, i32_w]; rfl
       refine q_p 18 (some 30) (bz 28 524287) (any_of HT_.out (by kernel_rfl)) (v := ?_) ?_ (a' := ?_) ?_ ?_; rotate_left 2
       ·intro w'; go_simp; with_reducible rfl
       ·simp only [Act.put, List.setIfInBounds_toArray, List.set_cons_zero, List.set_cons_succ, i64_w, i32_w]; rfl
       refine q_p 19 (some 31) (bz 28 1048575) (any_of HT_.out (by kernel_rfl)) (v := ?_) ?_ (a' := ?_) ?_ ?_; rotate_left 2
       ·intro w'; go_simp; with_reducible rfl
       ·simp only [Act.put, List.setIfInBounds_toArray, List.set_cons_zero, List.set_cons_succ, i64_w, i32_w]; rfl
       refine q_p 20 (some 32) (bz 28 2097151) (any_of HT_.out (by kernel_rfl)) (v := ?_) ?_ (a' := ?_) ?_ ?_; rotate_left 2
       ·intro w'; go_simp; with_reducible rfl
       ·simp only [Act.put, List.setIfInBounds_toArray, List.set_cons_zero, List.set_cons_succ, i64_w, i32_w]; rfl
       refine q_p 21 (some 33) (bz 28 4194303) (any_of HT_.out (by kernel_rfl)) (v := ?_) ?_ (a' := ?_) ?_ ?_; rotate_left 2
       ·intro w'; go_simp; with_reducible rfl
       ·simp only [Act.put, List.setIfInBounds_toArray, List.set_cons_zero, List.set_cons_succ, i64_w, i32_w]; rfl
       refine q_p 23 (some 35) (bz 28 12582911) (any_of HT_.out (by kernel_rfl)) (v := ?_) ?_ (a' := ?_) ?_ ?_; rotate_left 2
       ·intro w'; go_simp; with_reducible rfl
       ·simp only [Act.put, List.setIfInBounds_toArray, List.set_cons_zero, List.set_cons_succ, i64_w, i32_w]; rfl
       refine q_p 24 (some 36) (bz 28 29360127) (any_of HT_.out (by kernel_rfl)) (v := ?_) ?_ (a' := ?_) ?_ ?_; rotate_left 2
       ·intro w'; go_simp; with_reducible rfl
       ·simp only [Act.put, List.setIfInBounds_toArray, List.set_cons_zero, List.set_cons_succ, i64_w, i32_w]; rfl
       refine q_t 22 (some 34) (bz 28 33554431) (take_ofW HT_.out HW_.out (by kernel_rfl)) hHeld (v := ?_) ?_ (a' := ?_) ?_ ?_; rotate_left 2
       ·rintro w' ⟨s0, s1, s2, s3, s4⟩; go_simp; with_reducible rfl
       ·simp only [Act.put, List.setIfInBounds_toArray, List.set_cons_zero, List.set_cons_succ, i64_w, i32_w]; rfl
       refine q_t 25 (some 37) (bz 28 67108863) (take_ofW HT_.out HW_.out (by kernel_rfl)) hHeld (v := ?_) ?_ (a' := ?_) ?_ ?_; rotate_left 2
       ·rintro w' ⟨s0, s1, s2, s3, s4⟩; go_simp; with_reducible rfl
       ·simp only [Act.put, List.setIfInBounds_toArray, List.set_cons_zero, List.set_cons_succ, i64_w, i32_w]; rfl
       refine one_ (i := 26) (N := some 38) (bz 28 134217727) rfl rfl (one_of HT_.out (by kernel_rfl)) (by decide) (fun K hK => ?_)
       refine goes_ Try.func28 (by kernel_rfl) rfl #[.slice A457_1 ((rd_T64 l0 x5_1).f1).length c457_1, .slice A1_9 l1_9.length c1_9] (by rfl) rfl rfl (by (try simp only [List.map_toArray, List.map_cons, List.map_nil]); first | done | rfl | (simp only [List.length_drop, List.length_take]; rfl)) ?_
       with_reducible refine (orchestratorref03_Matches.calls k1 _ _ _ _ _ _ _ _ ?side1 ?side2 ?side3 ?side4 A7.out).mono ?_
       (case side1 => exact s_D HR458_1.out HB.out)
       (case side2 => exact HC458_1.out)
       (case side3 => exact s_D HR1_9.out HB.out)
       (case side4 => exact HC1_9.out)
       rintro e w12 ⟨rfl, hb⟩
       refine ⟨_, rfl, ?_⟩
       replace BK456 := s_a (blk_below (s_k BK456.out) hb)
       replace HB := s_a (below_step (by exact s_b HB.out) hb)
       (try clear hb)
       refine hK.out _ _ ⟨s_x BK456.out 9, (s_m HB.out hw457_0), (s_m HB.out hw457_1), (s_m HB.out hw458_0), (s_m HB.out hw458_1)⟩ (fun hHeld => ?_)
       clear hK K
       refine norm_ (a' := ?_) ?_ ?_
       rotate_left
       ·show Act.put _ (some 38) _ = _
        simp only [Act.put, List.setIfInBounds_toArray, List.set_cons_zero, List.set_cons_succ, i64_w, i32_w]
        rfl
       refine q_p 27 (some 39) (bz 28 268435455) (any_of HT_.out (by kernel_rfl)) (v := ?_) ?_ (a' := ?_) ?_ ?_; rotate_left 2
       ·intro w'; go_simp; with_reducible rfl
       ·simp only [Act.put, List.setIfInBounds_toArray, List.set_cons_zero, List.set_cons_succ, i64_w, i32_w]; rfl
       refine done_ (done_of HT_.out (by kernel_rfl)) ?_
       try go_wp2
       go_roundg k1
       case measure => have := HK1.out; omega
       case rel => exact ⟨(wrap64 (x5_1 + 1)), (by first | rfl | (simp; done) | (simp [*]; done)), H', ⟨by have := HK1.out; omega⟩, ⟨by exact s_k BK456.out⟩, ⟨by exact s_b HB.out⟩⟩
     ·rw [if_neg c6] at H
      have c6b0 : (((rd_T64 l0 x5_1).f0).toList == ([] : List UInt8)) = false := beq_eq_false_iff_ne.mpr c6
      have c6b1 : (((rd_T64 l0 x5_1).f0).toList != ([] : List UInt8)) = true := bne_iff_ne.mpr c6
      by_cases c13 : ((rd_T64 l0 x5_1).f0).toList = a1_1.toList
      ·rw [if_pos c13] at H
       have c13b0 : (((rd_T64 l0 x5_1).f0).toList == a1_1.toList) = true := beq_iff_eq.mpr c13
       have c13b1 : (((rd_T64 l0 x5_1).f0).toList != a1_1.toList) = false := bne_eq_false_iff_eq.mpr c13
       clear c13
       replace H := Option.bind_eq_some_iff.mp H
       obtain ⟨t462, A140, H⟩ := H
       replace H : (if t462 = true then (some true) else (orchestratorref57_peer.l0 k1 l0 (wrap64 (x5_1 + 1)) a1_0 a1_1 a1_2 a1_3 a1_4 a1_5 a1_6 a1_7 a1_8 l1_9 l1_10 l1_11 l1_12 a1_13 a1_14 a1_15 a1_16 l1_17 l1_18 l1_19 l1_20 l1_21 l1_22 a1_23 a1_24 a1_25 a1_26 a1_27 l1_28 a1_29 a1_30 a1_31)) = some r := H
       have A14 := s_a A140
       clear A140
       by_cases c15 : t462 = true
       ·subst c15
        (try rw [if_pos rfl] at H)
        obtain rfl := Option.some.inj H
        try go_wp2
        replace BK456 := s_a (blk_drew BK456.out)
        replace HB := s_a (below_drew1 HB.out)
        have p457 : 0 ≤ (x5_1 : Int) := of_decide_eq_true (by first | (with_reducible assumption) | assumption)
        have q457 : x5_1 < (l0.length : Int) := of_decide_eq_true (by first | (with_reducible assumption) | assumption)
        obtain ⟨ad457, A457_1, c457_1, e457, hx457_0, hx457_1, hl457_1, hi457_1⟩ := at_T64 HR0.out x5_1 p457 q457
        have hw457_1 := hx457_1
        have hw457_0 := hx457_0
        cases e457
        replace hx457_0 := s_m HB.out hx457_0
        replace hx457_1 := s_m HB.out hx457_1
        have HR457_1 := s_a hi457_1
        have HC457_1 := s_a hl457_1
        clear hi457_1 hl457_1
        replace p457 := eq_true p457
        replace q457 := eq_true q457
        have p460 : 0 ≤ (x5_1 : Int) := of_decide_eq_true (by first | (with_reducible assumption) | assumption)
        have q460 : x5_1 < (l0.length : Int) := of_decide_eq_true (by first | (with_reducible assumption) | assumption)
        obtain ⟨ad460, A460_1, c460_1, e460, hx460_0, hx460_1, hl460_1, hi460_1⟩ := at_T64 HR0.out x5_1 p460 q460
        have hw460_1 := hx460_1
        have hw460_0 := hx460_0
        obtain rfl : ad457 = ad460 := (by injection e460)
        replace hx460_0 := s_m HB.out hx460_0
        replace hx460_1 := s_m HB.out hx460_1
        have HR460_1 := s_a hi460_1
        have HC460_1 := s_a hl460_1
        clear hi460_1 hl460_1
        replace p460 := eq_true p460
        replace q460 := eq_true q460
        have ea_ := Option.some.inj (hx457_1.symm.trans hx460_1)
        injection ea_ with ea_ en_ ec_
        subst ea_
        subst ec_
        clear en_
        have p461 : 0 ≤ (x5_1 : Int) := of_decide_eq_true (by first | (with_reducible assumption) | assumption)
        have q461 : x5_1 < (l0.length : Int) := of_decide_eq_true (by first | (with_reducible assumption) | assumption)
        obtain ⟨ad461, A461_1, c461_1, e461, hx461_0, hx461_1, hl461_1, hi461_1⟩ := at_T64 HR0.out x5_1 p461 q461
        have hw461_1 := hx461_1
        have hw461_0 := hx461_0
        obtain rfl : ad457 = ad461 := (by injection e461)
        replace hx461_0 := s_m HB.out hx461_0
        replace hx461_1 := s_m HB.out hx461_1
        have HR461_1 := s_a hi461_1
        have HC461_1 := s_a hl461_1
        clear hi461_1 hl461_1
        replace p461 := eq_true p461
        replace q461 := eq_true q461
        have ea_ := Option.some.inj (hx457_1.symm.trans hx461_1)
        injection ea_ with ea_ en_ ec_
        subst ea_
        subst ec_
        clear en_
        refine start_ (n := 28) (S := fun w' => w'.cell? ⟨gb456, 1, none⟩ = some (.string a1_1) ∧ w'.cell? ⟨gb456, 9, none⟩ = some (.slice A1_9 l1_9.length c1_9) ∧ w'.cell? (ad457.add ((x5_1).toNat * 2)) = some (.string ((rd_T64 l0 x5_1).f0)) ∧ w'.cell? ⟨(ad457.add ((x5_1).toNat * 2)).block, (ad457.add ((x5_1).toNat * 2)).off + 1, none⟩ = some (.slice A457_1 ((rd_T64 l0 x5_1).f1).length c457_1) ∧ w'.cell? (ad457.add ((x5_1).toNat * 2)) = some (.string ((rd_T64 l0 x5_1).f0)) ∧ w'.cell? ⟨(ad457.add ((x5_1).toNat * 2)).block, (ad457.add ((x5_1).toNat * 2)).off + 1, none⟩ = some (.slice A457_1 ((rd_T64 l0 x5_1).f1).length c457_1) ∧ w'.cell? (ad457.add ((x5_1).toNat * 2)) = some (.string ((rd_T64 l0 x5_1).f0)) ∧ w'.cell? ⟨(ad457.add ((x5_1).toNat * 2)).block, (ad457.add ((x5_1).toNat * 2)).off + 1, none⟩ = some (.slice A457_1 ((rd_T64 l0 x5_1).f1).length c457_1)) (ds := []) (bz 28 0) (by kernel_rfl) rfl rfl ⟨s_x BK456.out 1, s_x BK456.out 9, (s_m HB.out hw457_0), (s_m HB.out hw457_1), (s_m HB.out hw460_0), (s_m HB.out hw460_1), (s_m HB.out hw461_0), (s_m HB.out hw461_1)⟩ (fun hHeld => ?_); refine with_tabW orchestratorref57_peer.tab4 orchestratorref57_peer.bits4 (fun HT_ HW_ => ?_)
        generalize wr.drew = w16 at BK456 HB HR457_1 HR460_1 HR461_1 hx457_0 hx457_1 hx460_0 hx460_1 hx461_0 hx461_1 hHeld ⊢
        refine q_p 0 (some 12) (bz 28 1) (any_of HT_.out (by kernel_rfl)) (v := ?_) ?_ (a' := ?_) ?_ ?_; rotate_left 2
        ·intro w'; go_simp; with_reducible rfl
        ·simp only [Act.put, List.setIfInBounds_toArray, List.set_cons_zero, List.set_cons_succ, i64_w, i32_w]; rfl
        refine q_p 1 (some 13) (bz 28 3) (any_of HT_.out (by kernel_rfl)) (v := ?_) ?_ (a' := ?_) ?_ ?_; rotate_left 2
        ·intro w'; go_simp; with_reducible rfl
        ·simp only [Act.put, List.setIfInBounds_toArray, List.set_cons_zero, List.set_cons_succ, i64_w, i32_w]; rfl
        refine q_p 2 (some 14) (bz 28 7) (any_of HT_.out (by kernel_rfl)) (v := ?_) ?_ (a' := ?_) ?_ ?_; rotate_left 2
        ·intro w'; go_simp; with_reducible rfl
        ·simp only [Act.put, List.setIfInBounds_toArray, List.set_cons_zero, List.set_cons_succ, i64_w, i32_w]; rfl
        refine q_p 3 (some 15) (bz 28 15) (any_of HT_.out (by kernel_rfl)) (v := ?_) ?_ (a' := ?_) ?_ ?_; rotate_left 2
        ·intro w'; go_simp; with_reducible rfl
        ·simp only [Act.put, List.setIfInBounds_toArray, List.set_cons_zero, List.set_cons_succ, i64_w, i32_w]; rfl
        refine q_t 4 (some 16) (bz 28 31) (take_ofW HT_.out HW_.out (by kernel_rfl)) hHeld (v := ?_) ?_ (a' := ?_) ?_ ?_; rotate_left 2
        ·rintro w' ⟨s0, s1, s2, s3, s4, s5, s6, s7⟩; go_simp; with_reducible rfl
        ·simp only [Act.put, List.setIfInBounds_toArray, List.set_cons_zero, List.set_cons_succ, i64_w, i32_w]; rfl
        refine q_p 5 (some 17) (bz 28 63) (any_of HT_.out (by kernel_rfl)) (v := ?_) ?_ (a' := ?_) ?_ ?_; rotate_left 2
        ·intro w'; go_simp; with_reducible rfl
        ·simp only [Act.put, List.setIfInBounds_toArray, List.set_cons_zero, List.set_cons_succ, i64_w, i32_w]; rfl
        refine q_p 6 (some 18) (bz 28 127) (any_of HT_.out (by kernel_rfl)) (v := ?_) ?_ (a' := ?_) ?_ ?_; rotate_left 2
        ·intro w'; go_simp; with_reducible rfl
        ·simp only [Act.put, List.setIfInBounds_toArray, List.set_cons_zero, List.set_cons_succ, i64_w, i32_w]; rfl
        refine q_p 7 (some 19) (bz 28 255) (any_of HT_.out (by kernel_rfl)) (v := ?_) ?_ (a' := ?_) ?_ ?_; rotate_left 2
        ·intro w'; go_simp; with_reducible rfl
        ·simp only [Act.put, List.setIfInBounds_toArray, List.set_cons_zero, List.set_cons_succ, i64_w, i32_w]; rfl
        refine q_p 8 (some 20) (bz 28 511) (any_of HT_.out (by kernel_rfl)) (v := ?_) ?_ (a' := ?_) ?_ ?_; rotate_left 2
        ·intro w'; go_simp; with_reducible rfl
        ·simp only [Act.put, List.setIfInBounds_toArray, List.set_cons_zero, List.set_cons_succ, i64_w, i32_w]; rfl
        refine q_p 9 (some 21) (bz 28 1023) (any_of HT_.out (by kernel_rfl)) (v := ?_) ?_ (a' := ?_) ?_ ?_; rotate_left 2
        ·intro w'; go_simp; with_reducible rfl
        ·simp only [Act.put, List.setIfInBounds_toArray, List.set_cons_zero, List.set_cons_succ, i64_w, i32_w]; rfl
        refine q_p 10 (some 22) (bz 28 2047) (any_of HT_.out (by kernel_rfl)) (v := ?_) ?_ (a' := ?_) ?_ ?_; rotate_left 2
        ·intro w'; go_simp; with_reducible rfl
        ·simp only [Act.put, List.setIfInBounds_toArray, List.set_cons_zero, List.set_cons_succ, i64_w, i32_w]; rfl
        refine q_p 12 (some 24) (bz 28 6143) (any_of HT_.out (by kernel_rfl)) (v := ?_) ?_ (a' := ?_) ?_ ?_; rotate_left 2
        ·intro w'; go_simp; with_reducible rfl
        ·simp only [Act.put, List.setIfInBounds_toArray, List.set_cons_zero, List.set_cons_succ, i64_w, i32_w]; rfl
        refine q_p 13 (some 25) (bz 28 14335) (any_of HT_.out (by kernel_rfl)) (v := ?_) ?_ (a' := ?_) ?_ ?_; rotate_left 2
        ·intro w'; go_simp; with_reducible rfl
        ·simp only [Act.put, List.setIfInBounds_toArray, List.set_cons_zero, List.set_cons_succ, i64_w, i32_w]; rfl
        refine q_t 11 (some 23) (bz 28 16383) (take_ofW HT_.out HW_.out (by kernel_rfl)) hHeld (v := ?_) ?_ (a' := ?_) ?_ ?_; rotate_left 2
        ·rintro w' ⟨s0, s1, s2, s3, s4, s5, s6, s7⟩; go_simp; with_reducible rfl
        ·simp only [Act.put, List.setIfInBounds_toArray, List.set_cons_zero, List.set_cons_succ, i64_w, i32_w]; rfl
        refine q_t 14 (some 26) (bz 28 32767) (take_ofW HT_.out HW_.out (by kernel_rfl)) hHeld (v := ?_) ?_ (a' := ?_) ?_ ?_; rotate_left 2
        ·rintro w' ⟨s0, s1, s2, s3, s4, s5, s6, s7⟩; go_simp; with_reducible rfl
        ·simp only [Act.put, List.setIfInBounds_toArray, List.set_cons_zero, List.set_cons_succ, i64_w, i32_w]; rfl
        refine q_p 15 (some 27) (bz 28 65535) (any_of HT_.out (by kernel_rfl)) (v := ?_) ?_ (a' := ?_) ?_ ?_; rotate_left 2
        ·intro w'; go_simp; with_reducible rfl
        ·simp only [Act.put, List.setIfInBounds_toArray, List.set_cons_zero, List.set_cons_succ, i64_w, i32_w]; rfl
        refine q_p 16 (some 28) (bz 28 131071) (any_of HT_.out (by kernel_rfl)) (v := ?_) ?_ (a' := ?_) ?_ ?_; rotate_left 2
        ·intro w'; go_simp; with_reducible rfl
        ·simp only [Act.put, List.setIfInBounds_toArray, List.set_cons_zero, List.set_cons_succ, i64_w, i32_w]; rfl
        refine q_p 17 (some 29) (bz 28 262143) (any_of HT_.out (by kernel_rfl)) (v := ?_) ?_ (a' := ?_) ?_ ?_; rotate_left 2
        ·intro w'; go_simp; with_reducible rfl
        ·simp only [Act.put, List.setIfInBounds_toArray, List.set_cons_zero, List.set_cons_succ, i64_w, i32_w]; rfl
        refine q_p 18 (some 30) (bz 28 524287) (any_of HT_.out (by kernel_rfl)) (v := ?_) ?_ (a' := ?_) ?_ ?_; rotate_left 2
        ·intro w'; go_simp; with_reducible rfl
        ·simp only [Act.put, List.setIfInBounds_toArray, List.set_cons_zero, List.set_cons_succ, i64_w, i32_w]; rfl
        refine q_p 19 (some 31) (bz 28 1048575) (any_of HT_.out (by kernel_rfl)) (v := ?_) ?_ (a' := ?_) ?_ ?_; rotate_left 2
        ·intro w'; go_simp; with_reducible rfl
        ·simp only [Act.put, List.setIfInBounds_toArray, List.set_cons_zero, List.set_cons_succ, i64_w, i32_w]; rfl
        refine q_p 20 (some 32) (bz 28 2097151) (any_of HT_.out (by kernel_rfl)) (v := ?_) ?_ (a' := ?_) ?_ ?_; rotate_left 2
        ·intro w'; go_simp; with_reducible rfl
        ·simp only [Act.put, List.setIfInBounds_toArray, List.set_cons_zero, List.set_cons_succ, i64_w, i32_w]; rfl
        refine q_p 21 (some 33) (bz 28 4194303) (any_of HT_.out (by kernel_rfl)) (v := ?_) ?_ (a' := ?_) ?_ ?_; rotate_left 2
        ·intro w'; go_simp; with_reducible rfl
        ·simp only [Act.put, List.setIfInBounds_toArray, List.set_cons_zero, List.set_cons_succ, i64_w, i32_w]; rfl
        refine q_p 23 (some 35) (bz 28 12582911) (any_of HT_.out (by kernel_rfl)) (v := ?_) ?_ (a' := ?_) ?_ ?_; rotate_left 2
        ·intro w'; go_simp; with_reducible rfl
        ·simp only [Act.put, List.setIfInBounds_toArray, List.set_cons_zero, List.set_cons_succ, i64_w, i32_w]; rfl
        refine q_p 24 (some 36) (bz 28 29360127) (any_of HT_.out (by kernel_rfl)) (v := ?_) ?_ (a' := ?_) ?_ ?_; rotate_left 2
        ·intro w'; go_simp; with_reducible rfl
        ·simp only [Act.put, List.setIfInBounds_toArray, List.set_cons_zero, List.set_cons_succ, i64_w, i32_w]; rfl
        refine q_t 22 (some 34) (bz 28 33554431) (take_ofW HT_.out HW_.out (by kernel_rfl)) hHeld (v := ?_) ?_ (a' := ?_) ?_ ?_; rotate_left 2
        ·rintro w' ⟨s0, s1, s2, s3, s4, s5, s6, s7⟩; go_simp; with_reducible rfl
        ·simp only [Act.put, List.setIfInBounds_toArray, List.set_cons_zero, List.set_cons_succ, i64_w, i32_w]; rfl
        refine q_t 25 (some 37) (bz 28 67108863) (take_ofW HT_.out HW_.out (by kernel_rfl)) hHeld (v := ?_) ?_ (a' := ?_) ?_ ?_; rotate_left 2
        ·rintro w' ⟨s0, s1, s2, s3, s4, s5, s6, s7⟩; go_simp; with_reducible rfl
        ·simp only [Act.put, List.setIfInBounds_toArray, List.set_cons_zero, List.set_cons_succ, i64_w, i32_w]; rfl
        refine one_ (i := 26) (N := some 38) (bz 28 134217727) rfl rfl (one_of HT_.out (by kernel_rfl)) (by decide) (fun K hK => ?_)
        refine goes_ Try.func28 (by kernel_rfl) rfl #[.slice A457_1 ((rd_T64 l0 x5_1).f1).length c457_1, .slice A1_9 l1_9.length c1_9] (by rfl) rfl rfl (by (try simp only [List.map_toArray, List.map_cons, List.map_nil]); first | done | rfl | (simp only [List.length_drop, List.length_take]; rfl)) ?_
        with_reducible refine (orchestratorref03_Matches.calls k1 _ _ _ _ _ _ _ _ ?side1 ?side2 ?side3 ?side4 A14.out).mono ?_
        (case side1 => exact s_D HR461_1.out HB.out)
        (case side2 => exact HC461_1.out)
        (case side3 => exact s_D HR1_9.out HB.out)
        (case side4 => exact HC1_9.out)
        rintro e w17 ⟨rfl, hb⟩
        refine ⟨_, rfl, ?_⟩
        replace BK456 := s_a (blk_below (s_k BK456.out) hb)
        replace HB := s_a (below_step (by exact s_b HB.out) hb)
        (try clear hb)
        refine hK.out _ _ ⟨s_x BK456.out 1, s_x BK456.out 9, (s_m HB.out hw457_0), (s_m HB.out hw457_1), (s_m HB.out hw460_0), (s_m HB.out hw460_1), (s_m HB.out hw461_0), (s_m HB.out hw461_1)⟩ (fun hHeld => ?_)
        clear hK K
        refine norm_ (a' := ?_) ?_ ?_
        rotate_left
        ·show Act.put _ (some 38) _ = _
         simp only [Act.put, List.setIfInBounds_toArray, List.set_cons_zero, List.set_cons_succ, i64_w, i32_w]
         rfl
        refine q_p 27 (some 39) (bz 28 268435455) (any_of HT_.out (by kernel_rfl)) (v := ?_) ?_ (a' := ?_) ?_ ?_; rotate_left 2
        ·intro w'; go_simp; with_reducible rfl
        ·simp only [Act.put, List.setIfInBounds_toArray, List.set_cons_zero, List.set_cons_succ, i64_w, i32_w]; rfl
        refine done_ (done_of HT_.out (by kernel_rfl)) ?_
        try go_wp2
        go_ret
        exact ⟨by first | rfl | (simp [errW_none, errW_some] <;> rfl) | (simp [*, errW_none, errW_some] <;> rfl), by exact s_b HB.out⟩
       ·replace c15 := Bool.eq_false_iff.mpr c15
        subst c15
        (try rw [if_neg (show ¬ (false = true) by decide)] at H)
        have H' := s_a H
        clear H
        try go_wp2
        replace BK456 := s_a (blk_drew BK456.out)
        replace HB := s_a (below_drew1 HB.out)
        have p457 : 0 ≤ (x5_1 : Int) := of_decide_eq_true (by first | (with_reducible assumption) | assumption)
        have q457 : x5_1 < (l0.length : Int) := of_decide_eq_true (by first | (with_reducible assumption) | assumption)
        obtain ⟨ad457, A457_1, c457_1, e457, hx457_0, hx457_1, hl457_1, hi457_1⟩ := at_T64 HR0.out x5_1 p457 q457
        have hw457_1 := hx457_1
        have hw457_0 := hx457_0
        cases e457
        replace hx457_0 := s_m HB.out hx457_0
        replace hx457_1 := s_m HB.out hx457_1
        have HR457_1 := s_a hi457_1
        have HC457_1 := s_a hl457_1
        clear hi457_1 hl457_1
        replace p457 := eq_true p457
        replace q457 := eq_true q457
        have p460 : 0 ≤ (x5_1 : Int) := of_decide_eq_true (by first | (with_reducible assumption) | assumption)
        have q460 : x5_1 < (l0.length : Int) := of_decide_eq_true (by first | (with_reducible assumption) | assumption)
        obtain ⟨ad460, A460_1, c460_1, e460, hx460_0, hx460_1, hl460_1, hi460_1⟩ := at_T64 HR0.out x5_1 p460 q460
        have hw460_1 := hx460_1
        have hw460_0 := hx460_0
        obtain rfl : ad457 = ad460 := (by injection e460)
        replace hx460_0 := s_m HB.out hx460_0
        replace hx460_1 := s_m HB.out hx460_1
        have HR460_1 := s_a hi460_1
        have HC460_1 := s_a hl460_1
        clear hi460_1 hl460_1
        replace p460 := eq_true p460
        replace q460 := eq_true q460
        have ea_ := Option.some.inj (hx457_1.symm.trans hx460_1)
        injection ea_ with ea_ en_ ec_
        subst ea_
        subst ec_
        clear en_
        have p461 : 0 ≤ (x5_1 : Int) := of_decide_eq_true (by first | (with_reducible assumption) | assumption)
        have q461 : x5_1 < (l0.length : Int) := of_decide_eq_true (by first | (with_reducible assumption) | assumption)
        obtain ⟨ad461, A461_1, c461_1, e461, hx461_0, hx461_1, hl461_1, hi461_1⟩ := at_T64 HR0.out x5_1 p461 q461
        have hw461_1 := hx461_1
        have hw461_0 := hx461_0
        obtain rfl : ad457 = ad461 := (by injection e461)
        replace hx461_0 := s_m HB.out hx461_0
        replace hx461_1 := s_m HB.out hx461_1
        have HR461_1 := s_a hi461_1
        have HC461_1 := s_a hl461_1
        clear hi461_1 hl461_1
        replace p461 := eq_true p461
        replace q461 := eq_true q461
        have ea_ := Option.some.inj (hx457_1.symm.trans hx461_1)
        injection ea_ with ea_ en_ ec_
        subst ea_
        subst ec_
        clear en_
        refine start_ (n := 28) (S := fun w' => w'.cell? ⟨gb456, 1, none⟩ = some (.string a1_1) ∧ w'.cell? ⟨gb456, 9, none⟩ = some (.slice A1_9 l1_9.length c1_9) ∧ w'.cell? (ad457.add ((x5_1).toNat * 2)) = some (.string ((rd_T64 l0 x5_1).f0)) ∧ w'.cell? ⟨(ad457.add ((x5_1).toNat * 2)).block, (ad457.add ((x5_1).toNat * 2)).off + 1, none⟩ = some (.slice A457_1 ((rd_T64 l0 x5_1).f1).length c457_1) ∧ w'.cell? (ad457.add ((x5_1).toNat * 2)) = some (.string ((rd_T64 l0 x5_1).f0)) ∧ w'.cell? ⟨(ad457.add ((x5_1).toNat * 2)).block, (ad457.add ((x5_1).toNat * 2)).off + 1, none⟩ = some (.slice A457_1 ((rd_T64 l0 x5_1).f1).length c457_1) ∧ w'.cell? (ad457.add ((x5_1).toNat * 2)) = some (.string ((rd_T64 l0 x5_1).f0)) ∧ w'.cell? ⟨(ad457.add ((x5_1).toNat * 2)).block, (ad457.add ((x5_1).toNat * 2)).off + 1, none⟩ = some (.slice A457_1 ((rd_T64 l0 x5_1).f1).length c457_1)) (ds := []) (bz 28 0) (by kernel_rfl) rfl rfl ⟨s_x BK456.out 1, s_x BK456.out 9, (s_m HB.out hw457_0), (s_m HB.out hw457_1), (s_m HB.out hw460_0), (s_m HB.out hw460_1), (s_m HB.out hw461_0), (s_m HB.out hw461_1)⟩ (fun hHeld => ?_); refine with_tabW orchestratorref57_peer.tab4 orchestratorref57_peer.bits4 (fun HT_ HW_ => ?_)
        generalize wr.drew = w18 at BK456 HB HR457_1 HR460_1 HR461_1 hx457_0 hx457_1 hx460_0 hx460_1 hx461_0 hx461_1 hHeld ⊢
        refine q_p 0 (some 12) (bz 28 1) (any_of HT_.out (by kernel_rfl)) (v := ?_) ?_ (a' := ?_) ?_ ?_; rotate_left 2
        ·intro w'; go_simp; with_reducible rfl
        ·simp only [Act.put, List.setIfInBounds_toArray, List.set_cons_zero, List.set_cons_succ, i64_w, i32_w]; rfl
        refine q_p 1 (some 13) (bz 28 3) (any_of HT_.out (by kernel_rfl)) (v := ?_) ?_ (a' := ?_) ?_ ?_; rotate_left 2
        ·intro w'; go_simp; with_reducible rfl
        ·simp only [Act.put, List.setIfInBounds_toArray, List.set_cons_zero, List.set_cons_succ, i64_w, i32_w]; rfl
        refine q_p 2 (some 14) (bz 28 7) (any_of HT_.out (by kernel_rfl)) (v := ?_) ?_ (a' := ?_) ?_ ?_; rotate_left 2
        ·intro w'; go_simp; with_reducible rfl
        ·simp only [Act.put, List.setIfInBounds_toArray, List.set_cons_zero, List.set_cons_succ, i64_w, i32_w]; rfl
        refine q_p 3 (some 15) (bz 28 15) (any_of HT_.out (by kernel_rfl)) (v := ?_) ?_ (a' := ?_) ?_ ?_; rotate_left 2
        ·intro w'; go_simp; with_reducible rfl
        ·simp only [Act.put, List.setIfInBounds_toArray, List.set_cons_zero, List.set_cons_succ, i64_w, i32_w]; rfl
        refine q_t 4 (some 16) (bz 28 31) (take_ofW HT_.out HW_.out (by kernel_rfl)) hHeld (v := ?_) ?_ (a' := ?_) ?_ ?_; rotate_left 2
        ·rintro w' ⟨s0, s1, s2, s3, s4, s5, s6, s7⟩; go_simp; with_reducible rfl
        ·simp only [Act.put, List.setIfInBounds_toArray, List.set_cons_zero, List.set_cons_succ, i64_w, i32_w]; rfl
        refine q_p 5 (some 17) (bz 28 63) (any_of HT_.out (by kernel_rfl)) (v := ?_) ?_ (a' := ?_) ?_ ?_; rotate_left 2
        ·intro w'; go_simp; with_reducible rfl
        ·simp only [Act.put, List.setIfInBounds_toArray, List.set_cons_zero, List.set_cons_succ, i64_w, i32_w]; rfl
        refine q_p 6 (some 18) (bz 28 127) (any_of HT_.out (by kernel_rfl)) (v := ?_) ?_ (a' := ?_) ?_ ?_; rotate_left 2
        ·intro w'; go_simp; with_reducible rfl
        ·simp only [Act.put, List.setIfInBounds_toArray, List.set_cons_zero, List.set_cons_succ, i64_w, i32_w]; rfl
        refine q_p 7 (some 19) (bz 28 255) (any_of HT_.out (by kernel_rfl)) (v := ?_) ?_ (a' := ?_) ?_ ?_; rotate_left 2
        ·intro w'; go_simp; with_reducible rfl
        ·simp only [Act.put, List.setIfInBounds_toArray, List.set_cons_zero, List.set_cons_succ, i64_w, i32_w]; rfl
        refine q_p 8 (some 20) (bz 28 511) (any_of HT_.out (by kernel_rfl)) (v := ?_) ?_ (a' := ?_) ?_ ?_; rotate_left 2
        ·intro w'; go_simp; with_reducible rfl
        ·simp only [Act.put, List.setIfInBounds_toArray, List.set_cons_zero, List.set_cons_succ, i64_w, i32_w]; rfl
        refine q_p 9 (some 21) (bz 28 1023) (any_of HT_.out (by kernel_rfl)) (v := ?_) ?_ (a' := ?_) ?_ ?_; rotate_left 2
        ·intro w'; go_simp; with_reducible rfl
        ·simp only [Act.put, List.setIfInBounds_toArray, List.set_cons_zero, List.set_cons_succ, i64_w, i32_w]; rfl
        refine q_p 10 (some 22) (bz 28 2047) (any_of HT_.out (by kernel_rfl)) (v := ?_) ?_ (a' := ?_) ?_ ?_; rotate_left 2
        ·intro w'; go_simp; with_reducible rfl
        ·simp only [Act.put, List.setIfInBounds_toArray, List.set_cons_zero, List.set_cons_succ, i64_w, i32_w]; rfl
        refine q_p 12 (some 24) (bz 28 6143) (any_of HT_.out (by kernel_rfl)) (v := ?_) ?_ (a' := ?_) ?_ ?_; rotate_left 2
        ·intro w'; go_simp; with_reducible rfl
        ·simp only [Act.put, List.setIfInBounds_toArray, List.set_cons_zero, List.set_cons_succ, i64_w, i32_w]; rfl
        refine q_p 13 (some 25) (bz 28 14335) (any_of HT_.out (by kernel_rfl)) (v := ?_) ?_ (a' := ?_) ?_ ?_; rotate_left 2
        ·intro w'; go_simp; with_reducible rfl
        ·simp only [Act.put, List.setIfInBounds_toArray, List.set_cons_zero, List.set_cons_succ, i64_w, i32_w]; rfl
        refine q_t 11 (some 23) (bz 28 16383) (take_ofW HT_.out HW_.out (by kernel_rfl)) hHeld (v := ?_) ?_ (a' := ?_) ?_ ?_; rotate_left 2
        ·rintro w' ⟨s0, s1, s2, s3, s4, s5, s6, s7⟩; go_simp; with_reducible rfl
        ·simp only [Act.put, List.setIfInBounds_toArray, List.set_cons_zero, List.set_cons_succ, i64_w, i32_w]; rfl
        refine q_t 14 (some 26) (bz 28 32767) (take_ofW HT_.out HW_.out (by kernel_rfl)) hHeld (v := ?_) ?_ (a' := ?_) ?_ ?_; rotate_left 2
        ·rintro w' ⟨s0, s1, s2, s3, s4, s5, s6, s7⟩; go_simp; with_reducible rfl
        ·simp only [Act.put, List.setIfInBounds_toArray, List.set_cons_zero, List.set_cons_succ, i64_w, i32_w]; rfl
        refine q_p 15 (some 27) (bz 28 65535) (any_of HT_.out (by kernel_rfl)) (v := ?_) ?_ (a' := ?_) ?_ ?_; rotate_left 2
        ·intro w'; go_simp; with_reducible rfl
        ·simp only [Act.put, List.setIfInBounds_toArray, List.set_cons_zero, List.set_cons_succ, i64_w, i32_w]; rfl
        refine q_p 16 (some 28) (bz 28 131071) (any_of HT_.out (by kernel_rfl)) (v := ?_) ?_ (a' := ?_) ?_ ?_; rotate_left 2
        ·intro w'; go_simp; with_reducible rfl
        ·simp only [Act.put, List.setIfInBounds_toArray, List.set_cons_zero, List.set_cons_succ, i64_w, i32_w]; rfl
        refine q_p 17 (some 29) (bz 28 262143) (any_of HT_.out (by kernel_rfl)) (v := ?_) ?_ (a' := ?_) ?_ ?_; rotate_left 2
        ·intro w'; go_simp; with_reducible rfl
        ·simp only [Act.put, List.setIfInBounds_toArray, List.set_cons_zero, List.set_cons_succ, i64_w, i32_w]; rfl
        refine q_p 18 (some 30) (bz 28 524287) (any_of HT_.out (by kernel_rfl)) (v := ?_) ?_ (a' := ?_) ?_ ?_; rotate_left 2
        ·intro w'; go_simp; with_reducible rfl
        ·simp only [Act.put, List.setIfInBounds_toArray, List.set_cons_zero, List.set_cons_succ, i64_w, i32_w]; rfl
        refine q_p 19 (some 31) (bz 28 1048575) (any_of HT_.out (by kernel_rfl)) (v := ?_) ?_ (a' := ?_) ?_ ?_; rotate_left 2
        ·intro w'; go_simp; with_reducible rfl
        ·simp only [Act.put, List.setIfInBounds_toArray, List.set_cons_zero, List.set_cons_succ, i64_w, i32_w]; rfl
        refine q_p 20 (some 32) (bz 28 2097151) (any_of HT_.out (by kernel_rfl)) (v := ?_) ?_ (a' := ?_) ?_ ?_; rotate_left 2
        ·intro w'; go_simp; with_reducible rfl
        ·simp only [Act.put, List.setIfInBounds_toArray, List.set_cons_zero, List.set_cons_succ, i64_w, i32_w]; rfl
        refine q_p 21 (some 33) (bz 28 4194303) (any_of HT_.out (by kernel_rfl)) (v := ?_) ?_ (a' := ?_) ?_ ?_; rotate_left 2
        ·intro w'; go_simp; with_reducible rfl
        ·simp only [Act.put, List.setIfInBounds_toArray, List.set_cons_zero, List.set_cons_succ, i64_w, i32_w]; rfl
        refine q_p 23 (some 35) (bz 28 12582911) (any_of HT_.out (by kernel_rfl)) (v := ?_) ?_ (a' := ?_) ?_ ?_; rotate_left 2
        ·intro w'; go_simp; with_reducible rfl
        ·simp only [Act.put, List.setIfInBounds_toArray, List.set_cons_zero, List.set_cons_succ, i64_w, i32_w]; rfl
        refine q_p 24 (some 36) (bz 28 29360127) (any_of HT_.out (by kernel_rfl)) (v := ?_) ?_ (a' := ?_) ?_ ?_; rotate_left 2
        ·intro w'; go_simp; with_reducible rfl
        ·simp only [Act.put, List.setIfInBounds_toArray, List.set_cons_zero, List.set_cons_succ, i64_w, i32_w]; rfl
        refine q_t 22 (some 34) (bz 28 33554431) (take_ofW HT_.out HW_.out (by kernel_rfl)) hHeld (v := ?_) ?_ (a' := ?_) ?_ ?_; rotate_left 2
        ·rintro w' ⟨s0, s1, s2, s3, s4, s5, s6, s7⟩; go_simp; with_reducible rfl
        ·simp only [Act.put, List.setIfInBounds_toArray, List.set_cons_zero, List.set_cons_succ, i64_w, i32_w]; rfl
        refine q_t 25 (some 37) (bz 28 67108863) (take_ofW HT_.out HW_.out (by kernel_rfl)) hHeld (v := ?_) ?_ (a' := ?_) ?_ ?_; rotate_left 2
        ·rintro w' ⟨s0, s1, s2, s3, s4, s5, s6, s7⟩; go_simp; with_reducible rfl
        ·simp only [Act.put, List.setIfInBounds_toArray, List.set_cons_zero, List.set_cons_succ, i64_w, i32_w]; rfl
        refine one_ (i := 26) (N := some 38) (bz 28 134217727) rfl rfl (one_of HT_.out (by kernel_rfl)) (by decide) (fun K hK => ?_)
        refine goes_ Try.func28 (by kernel_rfl) rfl #[.slice A457_1 ((rd_T64 l0 x5_1).f1).length c457_1, .slice A1_9 l1_9.length c1_9] (by rfl) rfl rfl (by (try simp only [List.map_toArray, List.map_cons, List.map_nil]); first | done | rfl | (simp only [List.length_drop, List.length_take]; rfl)) ?_
        with_reducible refine (orchestratorref03_Matches.calls k1 _ _ _ _ _ _ _ _ ?side1 ?side2 ?side3 ?side4 A14.out).mono ?_
        (case side1 => exact s_D HR461_1.out HB.out)
        (case side2 => exact HC461_1.out)
        (case side3 => exact s_D HR1_9.out HB.out)
        (case side4 => exact HC1_9.out)
        rintro e w19 ⟨rfl, hb⟩
        refine ⟨_, rfl, ?_⟩
        replace BK456 := s_a (blk_below (s_k BK456.out) hb)
        replace HB := s_a (below_step (by exact s_b HB.out) hb)
        (try clear hb)
        refine hK.out _ _ ⟨s_x BK456.out 1, s_x BK456.out 9, (s_m HB.out hw457_0), (s_m HB.out hw457_1), (s_m HB.out hw460_0), (s_m HB.out hw460_1), (s_m HB.out hw461_0), (s_m HB.out hw461_1)⟩ (fun hHeld => ?_)
        clear hK K
        refine norm_ (a' := ?_) ?_ ?_
        rotate_left
        ·show Act.put _ (some 38) _ = _
         simp only [Act.put, List.setIfInBounds_toArray, List.set_cons_zero, List.set_cons_succ, i64_w, i32_w]
         rfl
        refine q_p 27 (some 39) (bz 28 268435455) (any_of HT_.out (by kernel_rfl)) (v := ?_) ?_ (a' := ?_) ?_ ?_; rotate_left 2
        ·intro w'; go_simp; with_reducible rfl
        ·simp only [Act.put, List.setIfInBounds_toArray, List.set_cons_zero, List.set_cons_succ, i64_w, i32_w]; rfl
        refine done_ (done_of HT_.out (by kernel_rfl)) ?_
        try go_wp2
        go_roundg k1
        case measure => have := HK1.out; omega
        case rel => exact ⟨(wrap64 (x5_1 + 1)), (by first | rfl | (simp; done) | (simp [*]; done)), H', ⟨by have := HK1.out; omega⟩, ⟨by exact s_k BK456.out⟩, ⟨by exact s_b HB.out⟩⟩
      ·rw [if_neg c13] at H
       have c13b0 : (((rd_T64 l0 x5_1).f0).toList == a1_1.toList) = false := beq_eq_false_iff_ne.mpr c13
       have c13b1 : (((rd_T64 l0 x5_1).f0).toList != a1_1.toList) = true := bne_iff_ne.mpr c13
       have H' := s_a H
       clear H
       try go_wp2
       replace BK456 := s_a (blk_drew BK456.out)
       replace HB := s_a (below_drew1 HB.out)
       have p457 : 0 ≤ (x5_1 : Int) := of_decide_eq_true (by first | (with_reducible assumption) | assumption)
       have q457 : x5_1 < (l0.length : Int) := of_decide_eq_true (by first | (with_reducible assumption) | assumption)
       obtain ⟨ad457, A457_1, c457_1, e457, hx457_0, hx457_1, hl457_1, hi457_1⟩ := at_T64 HR0.out x5_1 p457 q457
       have hw457_1 := hx457_1
       have hw457_0 := hx457_0
       cases e457
       replace hx457_0 := s_m HB.out hx457_0
       replace hx457_1 := s_m HB.out hx457_1
       have HR457_1 := s_a hi457_1
       have HC457_1 := s_a hl457_1
       clear hi457_1 hl457_1
       replace p457 := eq_true p457
       replace q457 := eq_true q457
       have p460 : 0 ≤ (x5_1 : Int) := of_decide_eq_true (by first | (with_reducible assumption) | assumption)
       have q460 : x5_1 < (l0.length : Int) := of_decide_eq_true (by first | (with_reducible assumption) | assumption)
       obtain ⟨ad460, A460_1, c460_1, e460, hx460_0, hx460_1, hl460_1, hi460_1⟩ := at_T64 HR0.out x5_1 p460 q460
       have hw460_1 := hx460_1
       have hw460_0 := hx460_0
       obtain rfl : ad457 = ad460 := (by injection e460)
       replace hx460_0 := s_m HB.out hx460_0
       replace hx460_1 := s_m HB.out hx460_1
       have HR460_1 := s_a hi460_1
       have HC460_1 := s_a hl460_1
       clear hi460_1 hl460_1
       replace p460 := eq_true p460
       replace q460 := eq_true q460
       have ea_ := Option.some.inj (hx457_1.symm.trans hx460_1)
       injection ea_ with ea_ en_ ec_
       subst ea_
       subst ec_
       clear en_
       refine start_ (n := 28) (S := fun w' => w'.cell? ⟨gb456, 1, none⟩ = some (.string a1_1) ∧ w'.cell? (ad457.add ((x5_1).toNat * 2)) = some (.string ((rd_T64 l0 x5_1).f0)) ∧ w'.cell? ⟨(ad457.add ((x5_1).toNat * 2)).block, (ad457.add ((x5_1).toNat * 2)).off + 1, none⟩ = some (.slice A457_1 ((rd_T64 l0 x5_1).f1).length c457_1) ∧ w'.cell? (ad457.add ((x5_1).toNat * 2)) = some (.string ((rd_T64 l0 x5_1).f0)) ∧ w'.cell? ⟨(ad457.add ((x5_1).toNat * 2)).block, (ad457.add ((x5_1).toNat * 2)).off + 1, none⟩ = some (.slice A457_1 ((rd_T64 l0 x5_1).f1).length c457_1)) (ds := []) (bz 28 0) (by kernel_rfl) rfl rfl ⟨s_x BK456.out 1, (s_m HB.out hw457_0), (s_m HB.out hw457_1), (s_m HB.out hw460_0), (s_m HB.out hw460_1)⟩ (fun hHeld => ?_); refine with_tabW orchestratorref57_peer.tab4 orchestratorref57_peer.bits4 (fun HT_ HW_ => ?_)
       generalize wr.drew = w20 at BK456 HB HR457_1 HR460_1 hx457_0 hx457_1 hx460_0 hx460_1 hHeld ⊢
       refine q_p 0 (some 12) (bz 28 1) (any_of HT_.out (by kernel_rfl)) (v := ?_) ?_ (a' := ?_) ?_ ?_; rotate_left 2
       ·intro w'; go_simp; with_reducible rfl
       ·simp only [Act.put, List.setIfInBounds_toArray, List.set_cons_zero, List.set_cons_succ, i64_w, i32_w]; rfl
       refine q_p 1 (some 13) (bz 28 3) (any_of HT_.out (by kernel_rfl)) (v := ?_) ?_ (a' := ?_) ?_ ?_; rotate_left 2
       ·intro w'; go_simp; with_reducible rfl
       ·simp only [Act.put, List.setIfInBounds_toArray, List.set_cons_zero, List.set_cons_succ, i64_w, i32_w]; rfl
       refine q_p 2 (some 14) (bz 28 7) (any_of HT_.out (by kernel_rfl)) (v := ?_) ?_ (a' := ?_) ?_ ?_; rotate_left 2
       ·intro w'; go_simp; with_reducible rfl
       ·simp only [Act.put, List.setIfInBounds_toArray, List.set_cons_zero, List.set_cons_succ, i64_w, i32_w]; rfl
       refine q_p 3 (some 15) (bz 28 15) (any_of HT_.out (by kernel_rfl)) (v := ?_) ?_ (a' := ?_) ?_ ?_; rotate_left 2
       ·intro w'; go_simp; with_reducible rfl
       ·simp only [Act.put, List.setIfInBounds_toArray, List.set_cons_zero, List.set_cons_succ, i64_w, i32_w]; rfl
       refine q_t 4 (some 16) (bz 28 31) (take_ofW HT_.out HW_.out (by kernel_rfl)) hHeld (v := ?_) ?_ (a' := ?_) ?_ ?_; rotate_left 2
       ·rintro w' ⟨s0, s1, s2, s3, s4⟩; go_simp; with_reducible rfl
       ·simp only [Act.put, List.setIfInBounds_toArray, List.set_cons_zero, List.set_cons_succ, i64_w, i32_w]; rfl
       refine q_p 5 (some 17) (bz 28 63) (any_of HT_.out (by kernel_rfl)) (v := ?_) ?_ (a' := ?_) ?_ ?_; rotate_left 2
       ·intro w'; go_simp; with_reducible rfl
       ·simp only [Act.put, List.setIfInBounds_toArray, List.set_cons_zero, List.set_cons_succ, i64_w, i32_w]; rfl
       refine q_p 6 (some 18) (bz 28 127) (any_of HT_.out (by kernel_rfl)) (v := ?_) ?_ (a' := ?_) ?_ ?_; rotate_left 2
       ·intro w'; go_simp; with_reducible rfl
       ·simp only [Act.put, List.setIfInBounds_toArray, List.set_cons_zero, List.set_cons_succ, i64_w, i32_w]; rfl
       refine q_p 7 (some 19) (bz 28 255) (any_of HT_.out (by kernel_rfl)) (v := ?_) ?_ (a' := ?_) ?_ ?_; rotate_left 2
       ·intro w'; go_simp; with_reducible rfl
       ·simp only [Act.put, List.setIfInBounds_toArray, List.set_cons_zero, List.set_cons_succ, i64_w, i32_w]; rfl
       refine q_p 8 (some 20) (bz 28 511) (any_of HT_.out (by kernel_rfl)) (v := ?_) ?_ (a' := ?_) ?_ ?_; rotate_left 2
       ·intro w'; go_simp; with_reducible rfl
       ·simp only [Act.put, List.setIfInBounds_toArray, List.set_cons_zero, List.set_cons_succ, i64_w, i32_w]; rfl
       refine q_p 9 (some 21) (bz 28 1023) (any_of HT_.out (by kernel_rfl)) (v := ?_) ?_ (a' := ?_) ?_ ?_; rotate_left 2
       ·intro w'; go_simp; with_reducible rfl
       ·simp only [Act.put, List.setIfInBounds_toArray, List.set_cons_zero, List.set_cons_succ, i64_w, i32_w]; rfl
       refine q_p 10 (some 22) (bz 28 2047) (any_of HT_.out (by kernel_rfl)) (v := ?_) ?_ (a' := ?_) ?_ ?_; rotate_left 2
       ·intro w'; go_simp; with_reducible rfl
       ·simp only [Act.put, List.setIfInBounds_toArray, List.set_cons_zero, List.set_cons_succ, i64_w, i32_w]; rfl
       refine q_p 12 (some 24) (bz 28 6143) (any_of HT_.out (by kernel_rfl)) (v := ?_) ?_ (a' := ?_) ?_ ?_; rotate_left 2
       ·intro w'; go_simp; with_reducible rfl
       ·simp only [Act.put, List.setIfInBounds_toArray, List.set_cons_zero, List.set_cons_succ, i64_w, i32_w]; rfl
       refine q_p 13 (some 25) (bz 28 14335) (any_of HT_.out (by kernel_rfl)) (v := ?_) ?_ (a' := ?_) ?_ ?_; rotate_left 2
       ·intro w'; go_simp; with_reducible rfl
       ·simp only [Act.put, List.setIfInBounds_toArray, List.set_cons_zero, List.set_cons_succ, i64_w, i32_w]; rfl
       refine q_t 11 (some 23) (bz 28 16383) (take_ofW HT_.out HW_.out (by kernel_rfl)) hHeld (v := ?_) ?_ (a' := ?_) ?_ ?_; rotate_left 2
       ·rintro w' ⟨s0, s1, s2, s3, s4⟩; go_simp; with_reducible rfl
       ·simp only [Act.put, List.setIfInBounds_toArray, List.set_cons_zero, List.set_cons_succ, i64_w, i32_w]; rfl
       refine q_t 14 (some 26) (bz 28 32767) (take_ofW HT_.out HW_.out (by kernel_rfl)) hHeld (v := ?_) ?_ (a' := ?_) ?_ ?_; rotate_left 2
       ·rintro w' ⟨s0, s1, s2, s3, s4⟩; go_simp; with_reducible rfl
       ·simp only [Act.put, List.setIfInBounds_toArray, List.set_cons_zero, List.set_cons_succ, i64_w, i32_w]; rfl
       refine q_p 15 (some 27) (bz 28 65535) (any_of HT_.out (by kernel_rfl)) (v := ?_) ?_ (a' := ?_) ?_ ?_; rotate_left 2
       ·intro w'; go_simp; with_reducible rfl
       ·simp only [Act.put, List.setIfInBounds_toArray, List.set_cons_zero, List.set_cons_succ, i64_w, i32_w]; rfl
       refine q_p 16 (some 28) (bz 28 131071) (any_of HT_.out (by kernel_rfl)) (v := ?_) ?_ (a' := ?_) ?_ ?_; rotate_left 2
       ·intro w'; go_simp; with_reducible rfl
       ·simp only [Act.put, List.setIfInBounds_toArray, List.set_cons_zero, List.set_cons_succ, i64_w, i32_w]; rfl
       refine q_p 17 (some 29) (bz 28 262143) (any_of HT_.out (by kernel_rfl)) (v := ?_) ?_ (a' := ?_) ?_ ?_; rotate_left 2
       ·intro w'; go_simp; with_reducible rfl
       ·simp only [Act.put, List.setIfInBounds_toArray, List.set_cons_zero, List.set_cons_succ, i64_w, i32_w]; rfl
       refine q_o 18 (some 30) (bz 28 524287) (any_of HT_.out (by kernel_rfl)) (a' := ?_) ?_ ?_; rotate_left
       ·simp only [Act.put, List.setIfInBounds_toArray, List.set_cons_zero, List.set_cons_succ, i64_w, i32_w]; rfl
       refine q_o 19 (some 31) (bz 28 1048575) (any_of HT_.out (by kernel_rfl)) (a' := ?_) ?_ ?_; rotate_left
       ·simp only [Act.put, List.setIfInBounds_toArray, List.set_cons_zero, List.set_cons_succ, i64_w, i32_w]; rfl
       refine q_o 20 (some 32) (bz 28 2097151) (any_of HT_.out (by kernel_rfl)) (a' := ?_) ?_ ?_; rotate_left
       ·simp only [Act.put, List.setIfInBounds_toArray, List.set_cons_zero, List.set_cons_succ, i64_w, i32_w]; rfl
       refine q_o 21 (some 33) (bz 28 4194303) (any_of HT_.out (by kernel_rfl)) (a' := ?_) ?_ ?_; rotate_left
       ·simp only [Act.put, List.setIfInBounds_toArray, List.set_cons_zero, List.set_cons_succ, i64_w, i32_w]; rfl
       refine q_o 22 (some 34) (bz 28 8388607) (any_of HT_.out (by kernel_rfl)) (a' := ?_) ?_ ?_; rotate_left
       ·simp only [Act.put, List.setIfInBounds_toArray, List.set_cons_zero, List.set_cons_succ, i64_w, i32_w]; rfl
       refine q_o 23 (some 35) (bz 28 16777215) (any_of HT_.out (by kernel_rfl)) (a' := ?_) ?_ ?_; rotate_left
       ·simp only [Act.put, List.setIfInBounds_toArray, List.set_cons_zero, List.set_cons_succ, i64_w, i32_w]; rfl
       refine q_o 24 (some 36) (bz 28 33554431) (any_of HT_.out (by kernel_rfl)) (a' := ?_) ?_ ?_; rotate_left
       ·simp only [Act.put, List.setIfInBounds_toArray, List.set_cons_zero, List.set_cons_succ, i64_w, i32_w]; rfl
       refine q_o 25 (some 37) (bz 28 67108863) (any_of HT_.out (by kernel_rfl)) (a' := ?_) ?_ ?_; rotate_left
       ·simp only [Act.put, List.setIfInBounds_toArray, List.set_cons_zero, List.set_cons_succ, i64_w, i32_w]; rfl
       refine q_o 26 (some 38) (bz 28 134217727) (any_of HT_.out (by kernel_rfl)) (a' := ?_) ?_ ?_; rotate_left
       ·simp only [Act.put, List.setIfInBounds_toArray, List.set_cons_zero, List.set_cons_succ, i64_w, i32_w]; rfl
       refine q_p 27 (some 39) (bz 28 268435455) (any_of HT_.out (by kernel_rfl)) (v := ?_) ?_ (a' := ?_) ?_ ?_; rotate_left 2
       ·intro w'; go_simp; with_reducible rfl
       ·simp only [Act.put, List.setIfInBounds_toArray, List.set_cons_zero, List.set_cons_succ, i64_w, i32_w]; rfl
       refine done_ (done_of HT_.out (by kernel_rfl)) ?_
       try go_wp2
       go_roundg k1
       case measure => have := HK1.out; omega
       case rel => exact ⟨(wrap64 (x5_1 + 1)), (by first | rfl | (simp; done) | (simp [*]; done)), H', ⟨by have := HK1.out; omega⟩, ⟨by exact s_k BK456.out⟩, ⟨by exact s_b HB.out⟩⟩
    ·rw [if_neg c5] at H
     exact absurd H (by simp)
   ·rw [if_neg c4] at H
    have c4b0 : decide (x5_1 < (l0.length : Int)) = false := decide_eq_false c4
    clear c4
    obtain rfl := Option.some.inj H
    go_wp2
    go_ret
    exact ⟨by first | rfl | (simp [errW_none, errW_some] <;> rfl) | (simp [*, errW_none, errW_some] <;> rfl), by exact s_b HB.out⟩
end Go.Proofs.Ytkdikhonafbgdaa.Q
