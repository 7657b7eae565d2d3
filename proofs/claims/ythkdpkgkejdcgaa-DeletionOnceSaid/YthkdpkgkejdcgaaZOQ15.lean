/- Part of a claim: see its row. Conditions: stated at each. -/
import Derived.Test.YthkdpkgkejdcgaaZOQ0
import Derived.Test.YthkdpkgkejdcgaaZOQ7
import Derived.Test.YthkdpkgkejdcgaaZOQ10
namespace Go.Proofs.Ythkdpkgkejdcgaa.Q
open Go.RowKit Go.Proofs.YthkdpkgkejdcgaaW.PrintWords Go.Proofs.YthkdpkgkejdcgaaW.PrintLast Go.Proofs.YthkdpkgkejdcgaaW.PrintMore Go.Proofs.Ythkdpkgkejdcgaa.Sh
attribute [local go_sem] max2_int min2_int max_two min_two max_three min_three max_four min_four
set_option linter.unusedVariables false
set_option linter.unusedSimpArgs false
mutual
def orchestratorlaw21_DeletionOnce.l0 : Nat → List (S45) → Int → Int → ByteArray → ByteArray → ByteArray → Int → Int → Int → Int → Bool → Int → List (S59) → List (S62) → List ByteArray → List (S66) → Int → Int → ByteArray → List (S31) → List (S70) → Int → Int → ByteArray → List (S31) → List (S70) → Option (Bool)
 | 0, _, _, _, _, _, _, _, _, _, _, _, _, _, _, _, _, _, _, _, _, _, _, _, _, _, _ => none
 | k + 1, x1, x2, x7, x754000, x754001, x754002, x754003, x754004, x754005, x754006, x754007, x754008, x754009, x754010, x754011, x754012, x754013, x754014, x754015, x754016, x754017, x754018, x754019, x754020, x754021, x754022 => if x7 < (x1.length : Int) then (if 0 ≤ x7 then (if ((rd_T45 x1 x7).f0).toList = ([] : List UInt8) then ((deletion_Begin.f k x754000 x754001 x754002 x754003 x754004 x754005 x754006 x754007 x754008 x754009 x754010 x754011 x754012 x754013 x754014 x754015 x754016 x754017 x754018 x754019 x754020 x754021 x754022 ((rd_T45 x1 x7).f1) ((rd_T45 x1 x7).f2) ((rd_T45 x1 x7).f3)).bind fun bt760 => (orchestratorlaw21_DeletionOnce.j1 k x1 x2 x7 bt760.2.2.2.2.2.2.2.2.2.2.2.2.2.2.2.2.2.2.2.2.2.2.2 x754000 x754001 x754002 x754003 x754004 x754005 x754006 x754007 x754008 x754009 x754010 x754011 x754012 x754013 x754014 x754015 x754016 x754017 x754018 x754019 x754020 x754021 x754022 ((rd_T45 x1 x7).f0) ((rd_T45 x1 x7).f1) ((rd_T45 x1 x7).f2) ((rd_T45 x1 x7).f3) bt760.1 bt760.2.1 bt760.2.2.1 bt760.2.2.2.1 bt760.2.2.2.2.1 bt760.2.2.2.2.2.1 bt760.2.2.2.2.2.2.1 bt760.2.2.2.2.2.2.2.1 bt760.2.2.2.2.2.2.2.2.1 bt760.2.2.2.2.2.2.2.2.2.1 bt760.2.2.2.2.2.2.2.2.2.2.1 bt760.2.2.2.2.2.2.2.2.2.2.2.1 bt760.2.2.2.2.2.2.2.2.2.2.2.2.1 bt760.2.2.2.2.2.2.2.2.2.2.2.2.2.1 bt760.2.2.2.2.2.2.2.2.2.2.2.2.2.2.1 bt760.2.2.2.2.2.2.2.2.2.2.2.2.2.2.2.1 bt760.2.2.2.2.2.2.2.2.2.2.2.2.2.2.2.2.1 bt760.2.2.2.2.2.2.2.2.2.2.2.2.2.2.2.2.2.1 bt760.2.2.2.2.2.2.2.2.2.2.2.2.2.2.2.2.2.2.1 bt760.2.2.2.2.2.2.2.2.2.2.2.2.2.2.2.2.2.2.2.1 bt760.2.2.2.2.2.2.2.2.2.2.2.2.2.2.2.2.2.2.2.2.1 bt760.2.2.2.2.2.2.2.2.2.2.2.2.2.2.2.2.2.2.2.2.2.1 bt760.2.2.2.2.2.2.2.2.2.2.2.2.2.2.2.2.2.2.2.2.2.2.1)) else ((deletion_Finish.f k x754000 x754001 x754002 x754003 x754004 x754005 x754006 x754007 x754008 x754009 x754010 x754011 x754012 x754013 x754014 x754015 x754016 x754017 x754018 x754019 x754020 x754021 x754022 ((rd_T45 x1 x7).f0)).bind fun bt800 => (orchestratorlaw21_DeletionOnce.j1 k x1 x2 x7 bt800.2.2.2.2.2.2.2.2.2.2.2.2.2.2.2.2.2.2.2.2.2.2.2 x754000 x754001 x754002 x754003 x754004 x754005 x754006 x754007 x754008 x754009 x754010 x754011 x754012 x754013 x754014 x754015 x754016 x754017 x754018 x754019 x754020 x754021 x754022 ((rd_T45 x1 x7).f0) ((rd_T45 x1 x7).f1) ((rd_T45 x1 x7).f2) ((rd_T45 x1 x7).f3) bt800.1 bt800.2.1 bt800.2.2.1 bt800.2.2.2.1 bt800.2.2.2.2.1 bt800.2.2.2.2.2.1 bt800.2.2.2.2.2.2.1 bt800.2.2.2.2.2.2.2.1 bt800.2.2.2.2.2.2.2.2.1 bt800.2.2.2.2.2.2.2.2.2.1 bt800.2.2.2.2.2.2.2.2.2.2.1 bt800.2.2.2.2.2.2.2.2.2.2.2.1 bt800.2.2.2.2.2.2.2.2.2.2.2.2.1 bt800.2.2.2.2.2.2.2.2.2.2.2.2.2.1 bt800.2.2.2.2.2.2.2.2.2.2.2.2.2.2.1 bt800.2.2.2.2.2.2.2.2.2.2.2.2.2.2.2.1 bt800.2.2.2.2.2.2.2.2.2.2.2.2.2.2.2.2.1 bt800.2.2.2.2.2.2.2.2.2.2.2.2.2.2.2.2.2.1 bt800.2.2.2.2.2.2.2.2.2.2.2.2.2.2.2.2.2.2.1 bt800.2.2.2.2.2.2.2.2.2.2.2.2.2.2.2.2.2.2.2.1 bt800.2.2.2.2.2.2.2.2.2.2.2.2.2.2.2.2.2.2.2.2.1 bt800.2.2.2.2.2.2.2.2.2.2.2.2.2.2.2.2.2.2.2.2.2.1 bt800.2.2.2.2.2.2.2.2.2.2.2.2.2.2.2.2.2.2.2.2.2.2.1))) else (none)) else ((orchestratorlaw21_lives.f k).bind fun t755 => (if t755 = true then ((deletion_Due.f x754000 x754001 x754002 x754003 x754004 x754005 x754006 x754007 x754008 x754009 x754010 x754011 x754012 x754013 x754014 x754015 x754016 x754017 x754018 x754019 x754020 x754021 x754022 x2).bind fun t756 => (if x754007 = true then (if (x754011.length : Int) = 0 then (if (t756 == (decide (x2 ≥ x754008))) = true then (some true) else (some false)) else (if (t756 == false) = true then (some true) else (some false))) else (if (t756 == false) = true then (some true) else (some false)))) else (some false)))
def orchestratorlaw21_DeletionOnce.j1 : Nat → List (S45) → Int → Int → Int → ByteArray → ByteArray → ByteArray → Int → Int → Int → Int → Bool → Int → List (S59) → List (S62) → List ByteArray → List (S66) → Int → Int → ByteArray → List (S31) → List (S70) → Int → Int → ByteArray → List (S31) → List (S70) → ByteArray → Int → Int → Int → ByteArray → ByteArray → ByteArray → Int → Int → Int → Int → Bool → Int → List (S59) → List (S62) → List ByteArray → List (S66) → Int → Int → ByteArray → List (S31) → List (S70) → Int → Int → ByteArray → List (S31) → List (S70) → Option (Bool)
 | 0, _, _, _, _, _, _, _, _, _, _, _, _, _, _, _, _, _, _, _, _, _, _, _, _, _, _, _, _, _, _, _, _, _, _, _, _, _, _, _, _, _, _, _, _, _, _, _, _, _, _, _, _, _, _ => none
 | k + 1, x1, x2, x7, x10, x754000, x754001, x754002, x754003, x754004, x754005, x754006, x754007, x754008, x754009, x754010, x754011, x754012, x754013, x754014, x754015, x754016, x754017, x754018, x754019, x754020, x754021, x754022, x759000, x759001, x759002, x759003, x760000, x760001, x760002, x760003, x760004, x760005, x760006, x760007, x760008, x760009, x760010, x760011, x760012, x760013, x760014, x760015, x760016, x760017, x760018, x760019, x760020, x760021, x760022 => if x10 = 0 then (if x754007 = true then (if x760007 = true then (if x760008 > x754008 then (some false) else (if x759000.toList = ([] : List UInt8) then (orchestratorlaw21_DeletionOnce.l0 k x1 x2 (wrap64 (x7 + 1)) x760000 x760001 x760002 x760003 x760004 x760005 x760006 x760007 x760008 x760009 x760010 x760011 x760012 x760013 x760014 x760015 x760016 x760017 x760018 x760019 x760020 x760021 x760022) else (orchestratorlaw21_DeletionOnce.l0 k x1 x2 (wrap64 (x7 + 1)) x760000 x760001 x760002 x760003 x760004 x760005 x760006 x760007 x760008 x760009 x760010 x760011 x760012 x760013 x760014 x760015 x760016 x760017 x760018 x760019 x760020 x760021 x760022))) else (some false)) else (if x759000.toList = ([] : List UInt8) then (if x760007 = true then (orchestratorlaw21_DeletionOnce.l0 k x1 x2 (wrap64 (x7 + 1)) x760000 x760001 x760002 x760003 x760004 x760005 x760006 x760007 x760008 x760009 x760010 x760011 x760012 x760013 x760014 x760015 x760016 x760017 x760018 x760019 x760020 x760021 x760022) else (some false)) else (orchestratorlaw21_DeletionOnce.l0 k x1 x2 (wrap64 (x7 + 1)) x760000 x760001 x760002 x760003 x760004 x760005 x760006 x760007 x760008 x760009 x760010 x760011 x760012 x760013 x760014 x760015 x760016 x760017 x760018 x760019 x760020 x760021 x760022))) else (orchestratorlaw21_DeletionOnce.l0 k x1 x2 (wrap64 (x7 + 1)) x754000 x754001 x754002 x754003 x754004 x754005 x754006 x754007 x754008 x754009 x754010 x754011 x754012 x754013 x754014 x754015 x754016 x754017 x754018 x754019 x754020 x754021 x754022)
end
def orchestratorlaw21_DeletionOnce.f (k : Nat) (a0_0 : ByteArray) (a0_1 : ByteArray) (a0_2 : ByteArray) (a0_3 : Int) (a0_4 : Int) (a0_5 : Int) (a0_6 : Int) (a0_7 : Bool) (a0_8 : Int) (l0_9 : List (S59)) (l0_10 : List (S62)) (l0_11 : List ByteArray) (l0_12 : List (S66)) (a0_13 : Int) (a0_14 : Int) (a0_15 : ByteArray) (l0_16 : List (S31)) (l0_17 : List (S70)) (a0_18 : Int) (a0_19 : Int) (a0_20 : ByteArray) (l0_21 : List (S31)) (l0_22 : List (S70)) (l1 : List (S45)) (a2 : Int) : Option (Bool) := if (l1.length : Int) > 60 then ((orchestratorlaw21_lives.f k).bind fun t754 => (if t754 = true then (some true) else (some false))) else (orchestratorlaw21_DeletionOnce.l0 k l1 a2 0 a0_0 a0_1 a0_2 a0_3 a0_4 a0_5 a0_6 a0_7 a0_8 l0_9 l0_10 l0_11 l0_12 a0_13 a0_14 a0_15 l0_16 l0_17 a0_18 a0_19 a0_20 l0_21 l0_22)
def orchestratorlaw21_DeletionOnce.T15 : Bool × List (List Nat × List Nat) := (true, [([], []), ([0, 0], [0]), ([1], [1]), ([1], [1]), ([2, 3, 1, 1], [1, 2, 3]), ([1], [1]), ([5, 1], [1, 5]), ([6, 1], [1, 6]), ([7, 4, 1], [1, 7]), ([8], [8]), ([9, 8], [8, 9]), ([10, 8], [8, 10]), ([11, 8], [8, 11]), ([12, 8], [8, 12]), ([8, 13, 1], [1, 8, 13]), ([14, 8, 1], [1, 14]), ([15], [15]), ([15], [15]), ([17, 15], [15, 17]), ([18, 15], [15, 18]), ([16, 19, 15], [15, 16, 19]), ([15, 20, 1], [1, 15, 20]), ([4, 21, 1], [1, 4, 21]), ([1, 22], [1, 22]), ([23, 15, 0, 1, 2, 3, 4, 5, 6, 7, 8, 9, 10, 11, 12, 13, 14, 15, 16, 17, 18, 19, 20, 21, 22, 23], [23])])
def orchestratorlaw21_DeletionOnce.B15 : List Nat := [0, 1, 3, 3, 15, 3, 35, 99, 255, 511, 1023, 2047, 4095, 8191, 16383, 32767, 65535, 65535, 196607, 458751, 1048575, 2097151, 4194303, 8388607, 16777215]
theorem orchestratorlaw21_DeletionOnce.tab15 : rtab .any (opsOf Try.f5 15) = orchestratorlaw21_DeletionOnce.T15 := by kernel_rfl
theorem orchestratorlaw21_DeletionOnce.bits15 : waitsOk orchestratorlaw21_DeletionOnce.T15.2 orchestratorlaw21_DeletionOnce.B15 = true := by kernel_rfl
set_option maxHeartbeats 8000000 in
set_option maxRecDepth 100000 in
theorem orchestratorlaw21_DeletionOnce.calls (k : Nat) (a0_0 : ByteArray) (a0_1 : ByteArray) (a0_2 : ByteArray) (a0_3 : Int) (a0_4 : Int) (a0_5 : Int) (a0_6 : Int) (a0_7 : Bool) (a0_8 : Int) (P0_9_ : Nat → Prop) (A0_9 : Option Addr) (c0_9 : Nat) (l0_9 : List (S59)) (P0_10_ : Nat → Prop) (A0_10 : Option Addr) (c0_10 : Nat) (l0_10 : List (S62)) (P0_11_ : Nat → Prop) (A0_11 : Option Addr) (c0_11 : Nat) (l0_11 : List ByteArray) (P0_12_ : Nat → Prop) (A0_12 : Option Addr) (c0_12 : Nat) (l0_12 : List (S66)) (a0_13 : Int) (a0_14 : Int) (a0_15 : ByteArray) (P0_16_ : Nat → Prop) (A0_16 : Option Addr) (c0_16 : Nat) (l0_16 : List (S31)) (P0_17_ : Nat → Prop) (A0_17 : Option Addr) (c0_17 : Nat) (l0_17 : List (S70)) (a0_18 : Int) (a0_19 : Int) (a0_20 : ByteArray) (P0_21_ : Nat → Prop) (A0_21 : Option Addr) (c0_21 : Nat) (l0_21 : List (S31)) (P0_22_ : Nat → Prop) (A0_22 : Option Addr) (c0_22 : Nat) (l0_22 : List (S70)) (A1 : Option Addr) (c1 : Nat) (l1 : List (S45)) (a2 : Int) (w : World) (hs0_9 : Kd.V k59 59 w w.heap.size (fun k_ => P0_9_ k_) (.slice A0_9 l0_9.length c0_9) l0_9) (hs0_10 : Kd.V k62 62 w w.heap.size (fun k_ => P0_10_ k_) (.slice A0_10 l0_10.length c0_10) l0_10) (hs0_11 : Kd.V Kd.string 9 w w.heap.size (fun k_ => P0_11_ k_) (.slice A0_11 l0_11.length c0_11) l0_11) (hs0_12 : Kd.V k66 66 w w.heap.size (fun k_ => P0_12_ k_) (.slice A0_12 l0_12.length c0_12) l0_12) (hs0_16 : Kd.V k31 31 w w.heap.size (fun k_ => P0_16_ k_) (.slice A0_16 l0_16.length c0_16) l0_16) (hs0_17 : Kd.V k70 70 w w.heap.size (fun k_ => P0_17_ k_) (.slice A0_17 l0_17.length c0_17) l0_17) (hs0_21 : Kd.V k31 31 w w.heap.size (fun k_ => P0_21_ k_) (.slice A0_21 l0_21.length c0_21) l0_21) (hs0_22 : Kd.V k70 70 w w.heap.size (fun k_ => P0_22_ k_) (.slice A0_22 l0_22.length c0_22) l0_22) (hr1 : Kd.C k45 w A1 l1.length l1) (hc1 : l1.length ≤ c1) (h : orchestratorlaw21_DeletionOnce.f k a0_0 a0_1 a0_2 a0_3 a0_4 a0_5 a0_6 a0_7 a0_8 l0_9 l0_10 l0_11 l0_12 a0_13 a0_14 a0_15 l0_16 l0_17 a0_18 a0_19 a0_20 l0_21 l0_22 l1 a2 = some true) :
  Calls Try.prog 5 #[.agg #[.string a0_0, .string a0_1, .string a0_2, .int .i64 a0_3, .int .i64 a0_4, .int .i64 a0_5, .int .i64 a0_6, .bool a0_7, .int .i64 a0_8, .slice A0_9 l0_9.length c0_9, .slice A0_10 l0_10.length c0_10, .slice A0_11 l0_11.length c0_11, .slice A0_12 l0_12.length c0_12, .int .i64 a0_13, .int .i64 a0_14, .string a0_15, .slice A0_16 l0_16.length c0_16, .slice A0_17 l0_17.length c0_17, .int .i64 a0_18, .int .i64 a0_19, .string a0_20, .slice A0_21 l0_21.length c0_21, .slice A0_22 l0_22.length c0_22], .slice A1 l1.length c1, .int .i64 a2] w fun e w' => e = .returned (.bool true) ∧ Below w.heap.size w w' := by
 have hu33 := Try.underlying33
 have hu45 := Try.underlying45
 have HO0_9 := s_a (show Kd.V k59 59 w w.heap.size (fun k_ => ((P0_9_ k_ ∨ P0_10_ k_ ∨ P0_11_ k_ ∨ P0_12_ k_ ∨ P0_16_ k_ ∨ P0_17_ k_ ∨ P0_21_ k_ ∨ P0_22_ k_) ∨ w.heap.size ≤ k_)) (.slice A0_9 l0_9.length c0_9) l0_9 from Kd.V_mono hs0_9 (fun k_ hk => .inl (.inl hk)))
 have HO0_10 := s_a (show Kd.V k62 62 w w.heap.size (fun k_ => ((P0_9_ k_ ∨ P0_10_ k_ ∨ P0_11_ k_ ∨ P0_12_ k_ ∨ P0_16_ k_ ∨ P0_17_ k_ ∨ P0_21_ k_ ∨ P0_22_ k_) ∨ w.heap.size ≤ k_)) (.slice A0_10 l0_10.length c0_10) l0_10 from Kd.V_mono hs0_10 (fun k_ hk => .inl (.inr (.inl hk))))
 have HO0_11 := s_a (show Kd.V Kd.string 9 w w.heap.size (fun k_ => ((P0_9_ k_ ∨ P0_10_ k_ ∨ P0_11_ k_ ∨ P0_12_ k_ ∨ P0_16_ k_ ∨ P0_17_ k_ ∨ P0_21_ k_ ∨ P0_22_ k_) ∨ w.heap.size ≤ k_)) (.slice A0_11 l0_11.length c0_11) l0_11 from Kd.V_mono hs0_11 (fun k_ hk => .inl (.inr (.inr (.inl hk)))))
 have HO0_12 := s_a (show Kd.V k66 66 w w.heap.size (fun k_ => ((P0_9_ k_ ∨ P0_10_ k_ ∨ P0_11_ k_ ∨ P0_12_ k_ ∨ P0_16_ k_ ∨ P0_17_ k_ ∨ P0_21_ k_ ∨ P0_22_ k_) ∨ w.heap.size ≤ k_)) (.slice A0_12 l0_12.length c0_12) l0_12 from Kd.V_mono hs0_12 (fun k_ hk => .inl (.inr (.inr (.inr (.inl hk))))))
 have HO0_16 := s_a (show Kd.V k31 31 w w.heap.size (fun k_ => ((P0_9_ k_ ∨ P0_10_ k_ ∨ P0_11_ k_ ∨ P0_12_ k_ ∨ P0_16_ k_ ∨ P0_17_ k_ ∨ P0_21_ k_ ∨ P0_22_ k_) ∨ w.heap.size ≤ k_)) (.slice A0_16 l0_16.length c0_16) l0_16 from Kd.V_mono hs0_16 (fun k_ hk => .inl (.inr (.inr (.inr (.inr (.inl hk)))))))
 have HO0_17 := s_a (show Kd.V k70 70 w w.heap.size (fun k_ => ((P0_9_ k_ ∨ P0_10_ k_ ∨ P0_11_ k_ ∨ P0_12_ k_ ∨ P0_16_ k_ ∨ P0_17_ k_ ∨ P0_21_ k_ ∨ P0_22_ k_) ∨ w.heap.size ≤ k_)) (.slice A0_17 l0_17.length c0_17) l0_17 from Kd.V_mono hs0_17 (fun k_ hk => .inl (.inr (.inr (.inr (.inr (.inr (.inl hk))))))))
 have HO0_21 := s_a (show Kd.V k31 31 w w.heap.size (fun k_ => ((P0_9_ k_ ∨ P0_10_ k_ ∨ P0_11_ k_ ∨ P0_12_ k_ ∨ P0_16_ k_ ∨ P0_17_ k_ ∨ P0_21_ k_ ∨ P0_22_ k_) ∨ w.heap.size ≤ k_)) (.slice A0_21 l0_21.length c0_21) l0_21 from Kd.V_mono hs0_21 (fun k_ hk => .inl (.inr (.inr (.inr (.inr (.inr (.inr (.inl hk)))))))))
 have HO0_22 := s_a (show Kd.V k70 70 w w.heap.size (fun k_ => ((P0_9_ k_ ∨ P0_10_ k_ ∨ P0_11_ k_ ∨ P0_12_ k_ ∨ P0_16_ k_ ∨ P0_17_ k_ ∨ P0_21_ k_ ∨ P0_22_ k_) ∨ w.heap.size ≤ k_)) (.slice A0_22 l0_22.length c0_22) l0_22 from Kd.V_mono hs0_22 (fun k_ hk => .inl (.inr (.inr (.inr (.inr (.inr (.inr (.inr hk)))))))))
 have HR1 := s_a hr1
 have HC1 := s_a hc1
 clear hr1 hc1
 have HB := s_a (Below.refl w.heap.size w)
 have H := h; unfold orchestratorlaw21_DeletionOnce.f at H
 clear h
 by_cases c4 : (l1.length : Int) > 60
 ·rw [if_pos c4] at H
  have c4b0 : decide (60 < (l1.length : Int)) = true := decide_eq_true c4
  have c4b1 : decide (60 < l1.length) = true := decide_eq_true (by omega)
  clear c4
  replace H := Option.bind_eq_some_iff.mp H
  obtain ⟨t754, A50, H⟩ := H
  replace H : (if t754 = true then (some true) else (some false)) = some true := H
  have A5 := s_a A50
  clear A50
  by_cases c6 : t754 = true
  ·subst c6
   (try rw [if_pos rfl] at H)
   clear H
   go_enter Try.func5, Try.ntmps5
   go_wp2_with (first | ((with_reducible refine gate_dst (N := 3) rfl ?_); (try (refine gate_guard (by rfl) ?_; dsimp only)); refine box_event ?hg (N := 3) ?hd (cs := #[.string a0_0, .string a0_1, .string a0_2, .int .i64 a0_3, .int .i64 a0_4, .int .i64 a0_5, .int .i64 a0_6, .bool a0_7, .int .i64 a0_8, .slice A0_9 l0_9.length c0_9, .slice A0_10 l0_10.length c0_10, .slice A0_11 l0_11.length c0_11, .slice A0_12 l0_12.length c0_12, .int .i64 a0_13, .int .i64 a0_14, .string a0_15, .slice A0_16 l0_16.length c0_16, .slice A0_17 l0_17.length c0_17, .int .i64 a0_18, .int .i64 a0_19, .string a0_20, .slice A0_21 l0_21.length c0_21, .slice A0_22 l0_22.length c0_22]) (t := 33) ?hr ?_; (case hd => rfl); (case hg => rfl); (case hr => first | (go_simp; done) | (go_simp; rfl)); intro gb753 hg w7 hbox hb; replace HB := s_a (below_step (by exact s_b HB.out) hb); clear hb hbox hg) | ((with_reducible refine gate_callee (f := 10) rfl ?_); refine goesL_ (some 14) rfl rfl Try.func10 (by kernel_rfl) rfl #[] rfl (by (try simp only [List.map_toArray, List.map_cons, List.map_nil]); first | done | rfl | (simp only [List.length_drop, List.length_take]; rfl)) ?_; (with_reducible refine (orchestratorlaw21_lives.calls k   _ A5.out).mono ?_); rintro e w8 ⟨rfl, hb⟩; refine ⟨_, rfl, ?_⟩; replace HB := s_a (below_step (by exact s_b HB.out) hb); (try clear hb)))
   go_ret
   exact ⟨by first | rfl | (simp [errW_none, errW_some] <;> rfl) | (simp [*, errW_none, errW_some] <;> rfl), by exact s_b HB.out⟩
  ·replace c6 := Bool.eq_false_iff.mpr c6
   subst c6
   (try rw [if_neg (show ¬ (false = true) by decide)] at H)
   exact absurd H (by simp)
 ·rw [if_neg c4] at H
  have c4b0 : decide (60 < (l1.length : Int)) = false := decide_eq_false c4
  have c4b1 : decide (60 < l1.length) = false := decide_eq_false (by omega)
  clear c4
  have H' := s_a H
  clear H
  go_enter Try.func5, Try.ntmps5
  go_wp2_with (first | ((with_reducible refine gate_dst (N := 3) rfl ?_); (try (refine gate_guard (by rfl) ?_; dsimp only)); refine box_event ?hg (N := 3) ?hd (cs := #[.string a0_0, .string a0_1, .string a0_2, .int .i64 a0_3, .int .i64 a0_4, .int .i64 a0_5, .int .i64 a0_6, .bool a0_7, .int .i64 a0_8, .slice A0_9 l0_9.length c0_9, .slice A0_10 l0_10.length c0_10, .slice A0_11 l0_11.length c0_11, .slice A0_12 l0_12.length c0_12, .int .i64 a0_13, .int .i64 a0_14, .string a0_15, .slice A0_16 l0_16.length c0_16, .slice A0_17 l0_17.length c0_17, .int .i64 a0_18, .int .i64 a0_19, .string a0_20, .slice A0_21 l0_21.length c0_21, .slice A0_22 l0_22.length c0_22]) (t := 33) ?hr ?_; (case hd => rfl); (case hg => rfl); (case hr => first | (go_simp; done) | (go_simp; rfl)); intro gb753 hg w9 hbox hb; have BK753 := s_a (hbox); have GE753 := s_a ((by rw [hg]; exact (below_size (by exact s_b HB.out)) : w.heap.size ≤ gb753)); replace HO0_9 := s_a (Kd.V_below (Kd.V_elderB (by exact s_V (HO0_9.out)) gb753 (Nat.le_of_eq hg.symm)) hb); replace HO0_10 := s_a (Kd.V_below (Kd.V_elderB (by exact s_V (HO0_10.out)) gb753 (Nat.le_of_eq hg.symm)) hb); replace HO0_11 := s_a (Kd.V_below (Kd.V_elderB (by exact s_V (HO0_11.out)) gb753 (Nat.le_of_eq hg.symm)) hb); replace HO0_12 := s_a (Kd.V_below (Kd.V_elderB (by exact s_V (HO0_12.out)) gb753 (Nat.le_of_eq hg.symm)) hb); replace HO0_16 := s_a (Kd.V_below (Kd.V_elderB (by exact s_V (HO0_16.out)) gb753 (Nat.le_of_eq hg.symm)) hb); replace HO0_17 := s_a (Kd.V_below (Kd.V_elderB (by exact s_V (HO0_17.out)) gb753 (Nat.le_of_eq hg.symm)) hb); replace HO0_21 := s_a (Kd.V_below (Kd.V_elderB (by exact s_V (HO0_21.out)) gb753 (Nat.le_of_eq hg.symm)) hb); replace HO0_22 := s_a (Kd.V_below (Kd.V_elderB (by exact s_V (HO0_22.out)) gb753 (Nat.le_of_eq hg.symm)) hb); replace HB := s_a (below_step (by exact s_b HB.out) hb); clear hb hbox hg))
  go_loopg [7] k (fun kq v7 w' => ∃ (x7_1 : Int) (x754000_1 : ByteArray) (x754001_1 : ByteArray) (x754002_1 : ByteArray) (x754003_1 : Int) (x754004_1 : Int) (x754005_1 : Int) (x754006_1 : Int) (x754007_1 : Bool) (x754008_1 : Int) (x754009_1 : List (S59)) (x754010_1 : List (S62)) (x754011_1 : List ByteArray) (x754012_1 : List (S66)) (x754013_1 : Int) (x754014_1 : Int) (x754015_1 : ByteArray) (x754016_1 : List (S31)) (x754017_1 : List (S70)) (x754018_1 : Int) (x754019_1 : Int) (x754020_1 : ByteArray) (x754021_1 : List (S31)) (x754022_1 : List (S70)) (u754009 : Value) (u754010 : Value) (u754011 : Value) (u754012 : Value) (u754016 : Value) (u754017 : Value) (u754021 : Value) (u754022 : Value), v7 = .int .i64 x7_1 ∧ Aside0 (orchestratorlaw21_DeletionOnce.l0 kq l1 a2 x7_1 x754000_1 x754001_1 x754002_1 x754003_1 x754004_1 x754005_1 x754006_1 x754007_1 x754008_1 x754009_1 x754010_1 x754011_1 x754012_1 x754013_1 x754014_1 x754015_1 x754016_1 x754017_1 x754018_1 x754019_1 x754020_1 x754021_1 x754022_1 = some true) ∧ Aside0 (kq ≤ k) ∧ Aside0 (Kd.V k59 59 w' w.heap.size (fun k_ => ((P0_9_ k_ ∨ P0_10_ k_ ∨ P0_11_ k_ ∨ P0_12_ k_ ∨ P0_16_ k_ ∨ P0_17_ k_ ∨ P0_21_ k_ ∨ P0_22_ k_) ∨ w.heap.size ≤ k_) ∧ k_ ≠ gb753) u754009 x754009_1) ∧ Aside0 (Kd.V k62 62 w' w.heap.size (fun k_ => ((P0_9_ k_ ∨ P0_10_ k_ ∨ P0_11_ k_ ∨ P0_12_ k_ ∨ P0_16_ k_ ∨ P0_17_ k_ ∨ P0_21_ k_ ∨ P0_22_ k_) ∨ w.heap.size ≤ k_) ∧ k_ ≠ gb753) u754010 x754010_1) ∧ Aside0 (Kd.V Kd.string 9 w' w.heap.size (fun k_ => ((P0_9_ k_ ∨ P0_10_ k_ ∨ P0_11_ k_ ∨ P0_12_ k_ ∨ P0_16_ k_ ∨ P0_17_ k_ ∨ P0_21_ k_ ∨ P0_22_ k_) ∨ w.heap.size ≤ k_) ∧ k_ ≠ gb753) u754011 x754011_1) ∧ Aside0 (Kd.V k66 66 w' w.heap.size (fun k_ => ((P0_9_ k_ ∨ P0_10_ k_ ∨ P0_11_ k_ ∨ P0_12_ k_ ∨ P0_16_ k_ ∨ P0_17_ k_ ∨ P0_21_ k_ ∨ P0_22_ k_) ∨ w.heap.size ≤ k_) ∧ k_ ≠ gb753) u754012 x754012_1) ∧ Aside0 (Kd.V k31 31 w' w.heap.size (fun k_ => ((P0_9_ k_ ∨ P0_10_ k_ ∨ P0_11_ k_ ∨ P0_12_ k_ ∨ P0_16_ k_ ∨ P0_17_ k_ ∨ P0_21_ k_ ∨ P0_22_ k_) ∨ w.heap.size ≤ k_) ∧ k_ ≠ gb753) u754016 x754016_1) ∧ Aside0 (Kd.V k70 70 w' w.heap.size (fun k_ => ((P0_9_ k_ ∨ P0_10_ k_ ∨ P0_11_ k_ ∨ P0_12_ k_ ∨ P0_16_ k_ ∨ P0_17_ k_ ∨ P0_21_ k_ ∨ P0_22_ k_) ∨ w.heap.size ≤ k_) ∧ k_ ≠ gb753) u754017 x754017_1) ∧ Aside0 (Kd.V k31 31 w' w.heap.size (fun k_ => ((P0_9_ k_ ∨ P0_10_ k_ ∨ P0_11_ k_ ∨ P0_12_ k_ ∨ P0_16_ k_ ∨ P0_17_ k_ ∨ P0_21_ k_ ∨ P0_22_ k_) ∨ w.heap.size ≤ k_) ∧ k_ ≠ gb753) u754021 x754021_1) ∧ Aside0 (Kd.V k70 70 w' w.heap.size (fun k_ => ((P0_9_ k_ ∨ P0_10_ k_ ∨ P0_11_ k_ ∨ P0_12_ k_ ∨ P0_16_ k_ ∨ P0_17_ k_ ∨ P0_21_ k_ ∨ P0_22_ k_) ∨ w.heap.size ≤ k_) ∧ k_ ≠ gb753) u754022 x754022_1) ∧ Aside0 (w'.heap[gb753]? = some (.cells #[.string x754000_1, .string x754001_1, .string x754002_1, .int .i64 x754003_1, .int .i64 x754004_1, .int .i64 x754005_1, .int .i64 x754006_1, .bool x754007_1, .int .i64 x754008_1, u754009, u754010, u754011, u754012, .int .i64 x754013_1, .int .i64 x754014_1, .string x754015_1, u754016, u754017, .int .i64 x754018_1, .int .i64 x754019_1, .string x754020_1, u754021, u754022] 33 (0, 0))) ∧ Aside0 (Below w.heap.size w w'))
  case atStart => exact ⟨(0), (a0_0), (a0_1), (a0_2), (a0_3), (a0_4), (a0_5), (a0_6), (a0_7), (a0_8), (l0_9), (l0_10), (l0_11), (l0_12), (a0_13), (a0_14), (a0_15), (l0_16), (l0_17), (a0_18), (a0_19), (a0_20), (l0_21), (l0_22), (.slice A0_9 l0_9.length c0_9), (.slice A0_10 l0_10.length c0_10), (.slice A0_11 l0_11.length c0_11), (.slice A0_12 l0_12.length c0_12), (.slice A0_16 l0_16.length c0_16), (.slice A0_17 l0_17.length c0_17), (.slice A0_21 l0_21.length c0_21), (.slice A0_22 l0_22.length c0_22), (by first | rfl | (simp; done) | (simp [*]; done)), H', ⟨Nat.le_refl _⟩, ⟨by exact s_V (HO0_9.out)⟩, ⟨by exact s_V (HO0_10.out)⟩, ⟨by exact s_V (HO0_11.out)⟩, ⟨by exact s_V (HO0_12.out)⟩, ⟨by exact s_V (HO0_16.out)⟩, ⟨by exact s_V (HO0_17.out)⟩, ⟨by exact s_V (HO0_21.out)⟩, ⟨by exact s_V (HO0_22.out)⟩, ⟨by exact s_k BK753.out⟩, ⟨by exact s_b HB.out⟩⟩
  case round =>
   clear H'
   try clear c1
   try clear p2
   try clear c4
   try clear c4b0
   try clear c4b1
   try clear c5
   try clear c6
   obtain ⟨x7_1, x754000_1, x754001_1, x754002_1, x754003_1, x754004_1, x754005_1, x754006_1, x754007_1, x754008_1, x754009_1, x754010_1, x754011_1, x754012_1, x754013_1, x754014_1, x754015_1, x754016_1, x754017_1, x754018_1, x754019_1, x754020_1, x754021_1, x754022_1, u754009, u754010, u754011, u754012, u754016, u754017, u754021, u754022, rfl, HA, HK1, HO_754009, HO_754010, HO_754011, HO_754012, HO_754016, HO_754017, HO_754021, HO_754022, BK753, HB⟩ := hrel
   cases gk with
   | zero => exact absurd HA.out (by simp [orchestratorlaw21_DeletionOnce.l0])
   | succ k1 =>
    have H := HA.out
    clear HA
    simp only [orchestratorlaw21_DeletionOnce.l0] at H
    by_cases c10 : x7_1 < (l1.length : Int)
    ·rw [if_pos c10] at H
     have c10b0 : decide (x7_1 < (l1.length : Int)) = true := decide_eq_true c10
     clear c10
     by_cases c11 : 0 ≤ x7_1
     ·rw [if_pos c11] at H
      have c11b0 : decide (0 ≤ x7_1) = true := decide_eq_true c11
      clear c11
      have HC12 := s_a H
      clear H
      have p757 : 0 ≤ (x7_1 : Int) := of_decide_eq_true (by first | (with_reducible assumption) | assumption)
      have q757 : x7_1 < (l1.length : Int) := of_decide_eq_true (by first | (with_reducible assumption) | assumption)
      obtain ⟨ad757, e757, hx757_0, hx757_1, hx757_2, hx757_3⟩ := at_T45 HR1.out x7_1 p757 q757
      cases e757
      replace hx757_0 := s_m HB.out hx757_0
      replace hx757_1 := s_m HB.out hx757_1
      replace hx757_2 := s_m HB.out hx757_2
      replace hx757_3 := s_m HB.out hx757_3
      replace p757 := eq_true p757
      replace q757 := eq_true q757
      go_upto_if 28 with (first | ((with_reducible refine gate_dst (N := 8) rfl ?_); (try (refine gate_guard (by rfl) ?_; dsimp only)); refine box_event ?hg (N := 8) ?hd (cs := #[.string (⟨#[]⟩ : ByteArray), .int .i64 0, .int .i64 0, .int .i64 0]) (t := 45) ?hr ?_; (case hd => rfl); (case hg => rfl); (case hr => first | (go_simp; done) | (go_simp; rfl)); intro gb758 hg w13 hbox hb; have BK758 := s_a (hbox); have GE758 := s_a ((by rw [hg]; exact (below_size (by exact s_b HB.out)) : w.heap.size ≤ gb758)); have NB753_758 := s_a ((by rw [hg]; exact Nat.ne_of_lt (blk_lt (s_k BK753.out)) : gb753 ≠ gb758)); have NB758_753 := s_a ((by rw [hg]; exact Nat.ne_of_gt (blk_lt (s_k BK753.out)) : gb758 ≠ gb753)); replace HO_754009 := s_a (Kd.V_below (Kd.V_elderB (by exact s_V (HO_754009.out)) gb758 (Nat.le_of_eq hg.symm)) hb); replace HO_754010 := s_a (Kd.V_below (Kd.V_elderB (by exact s_V (HO_754010.out)) gb758 (Nat.le_of_eq hg.symm)) hb); replace HO_754011 := s_a (Kd.V_below (Kd.V_elderB (by exact s_V (HO_754011.out)) gb758 (Nat.le_of_eq hg.symm)) hb); replace HO_754012 := s_a (Kd.V_below (Kd.V_elderB (by exact s_V (HO_754012.out)) gb758 (Nat.le_of_eq hg.symm)) hb); replace HO_754016 := s_a (Kd.V_below (Kd.V_elderB (by exact s_V (HO_754016.out)) gb758 (Nat.le_of_eq hg.symm)) hb); replace HO_754017 := s_a (Kd.V_below (Kd.V_elderB (by exact s_V (HO_754017.out)) gb758 (Nat.le_of_eq hg.symm)) hb); replace HO_754021 := s_a (Kd.V_below (Kd.V_elderB (by exact s_V (HO_754021.out)) gb758 (Nat.le_of_eq hg.symm)) hb); replace HO_754022 := s_a (Kd.V_below (Kd.V_elderB (by exact s_V (HO_754022.out)) gb758 (Nat.le_of_eq hg.symm)) hb); replace BK753 := s_a (blk_below (s_k BK753.out) hb); replace HB := s_a (below_step (by exact s_b HB.out) hb); clear hb hbox hg; have hnb14 := NB758_753.out; have hnc14 := NB753_758.out; obtain ⟨hcz15_0, hcz15_1, hcz15_2, hcz15_3⟩ := cells45 BK758.out; have hfz15_0 := blk_frozen BK758.out 0; have hfz15_1 := blk_frozen BK758.out 1; have hfz15_2 := blk_frozen BK758.out 2; have hfz15_3 := blk_frozen BK758.out 3) | ((with_reducible refine gate_store (t := 45) (p := 8) rfl ?_); refine store_all rfl 45 (.tmp 8) _ rfl gb758 #[.string ((rd_T45 l1 x7_1).f0), .int .i64 ((rd_T45 l1 x7_1).f1), .int .i64 ((rd_T45 l1 x7_1).f2), .int .i64 ((rd_T45 l1 x7_1).f3)] rfl rfl 45 _ (s_k BK758.out) sz45 rfl (by first | rfl | simp [Value.oneCell']) rfl ?_; intro w16 hnb hgr; have n0_ := s_a (s_g HB.out hgr GE758.out); have n1_ := s_a (blk_grown (s_k BK753.out) hgr (some_ne NB753_758.out)); clear HB; clear BK753; have HB := n0_; have BK753 := n1_; clear n0_ n1_; replace BK758 := s_a (hnb); replace HO_754009 := s_a (Kd.V_grown (s_V HO_754009.out) hgr (fun _ hk_ => some_ne hk_.2)); replace HO_754010 := s_a (Kd.V_grown (s_V HO_754010.out) hgr (fun _ hk_ => some_ne hk_.2)); replace HO_754011 := s_a (Kd.V_grown (s_V HO_754011.out) hgr (fun _ hk_ => some_ne hk_.2)); replace HO_754012 := s_a (Kd.V_grown (s_V HO_754012.out) hgr (fun _ hk_ => some_ne hk_.2)); replace HO_754016 := s_a (Kd.V_grown (s_V HO_754016.out) hgr (fun _ hk_ => some_ne hk_.2)); replace HO_754017 := s_a (Kd.V_grown (s_V HO_754017.out) hgr (fun _ hk_ => some_ne hk_.2)); replace HO_754021 := s_a (Kd.V_grown (s_V HO_754021.out) hgr (fun _ hk_ => some_ne hk_.2)); replace HO_754022 := s_a (Kd.V_grown (s_V HO_754022.out) hgr (fun _ hk_ => some_ne hk_.2)); clear hnb hgr; obtain ⟨Ao17, co17, eo17⟩ := Kd.V_slice HO_754009.out; subst eo17; obtain ⟨Ao18, co18, eo18⟩ := Kd.V_slice HO_754010.out; subst eo18; obtain ⟨Ao19, co19, eo19⟩ := Kd.V_slice HO_754011.out; subst eo19; obtain ⟨Ao20, co20, eo20⟩ := Kd.V_slice HO_754012.out; subst eo20; obtain ⟨Ao21, co21, eo21⟩ := Kd.V_slice HO_754016.out; subst eo21; obtain ⟨Ao22, co22, eo22⟩ := Kd.V_slice HO_754017.out; subst eo22; obtain ⟨Ao23, co23, eo23⟩ := Kd.V_slice HO_754021.out; subst eo23; obtain ⟨Ao24, co24, eo24⟩ := Kd.V_slice HO_754022.out; subst eo24) | ((with_reducible refine gate_dst (N := 25) rfl ?_); (try (refine gate_guard (by rfl) ?_; dsimp only)); refine wpList_load_row rfl 33 (.tmp 3) rfl gb753 rfl 33 _ (0, 0) _ (s_k BK753.out) Try.underlying33 rfl sz33 ?_) | ((with_reducible refine gate_dst (N := 9) rfl ?_); (try (refine gate_guard (by rfl) ?_; dsimp only)); refine box_event ?hg (N := 9) ?hd (cs := #[.string (⟨#[]⟩ : ByteArray), .string (⟨#[]⟩ : ByteArray), .string (⟨#[]⟩ : ByteArray), .int .i64 0, .int .i64 0, .int .i64 0, .int .i64 0, .bool false, .int .i64 0, .slice none 0 0, .slice none 0 0, .slice none 0 0, .slice none 0 0, .int .i64 0, .int .i64 0, .string (⟨#[]⟩ : ByteArray), .slice none 0 0, .slice none 0 0, .int .i64 0, .int .i64 0, .string (⟨#[]⟩ : ByteArray), .slice none 0 0, .slice none 0 0]) (t := 33) ?hr ?_; (case hd => rfl); (case hg => rfl); (case hr => first | (go_simp; done) | (go_simp; rfl)); intro gb759 hg w25 hbox hb; have BK759 := s_a (hbox); have GE759 := s_a ((by rw [hg]; exact (below_size (by exact s_b HB.out)) : w.heap.size ≤ gb759)); have NB753_759 := s_a ((by rw [hg]; exact Nat.ne_of_lt (blk_lt (s_k BK753.out)) : gb753 ≠ gb759)); have NB759_753 := s_a ((by rw [hg]; exact Nat.ne_of_gt (blk_lt (s_k BK753.out)) : gb759 ≠ gb753)); have NB758_759 := s_a ((by rw [hg]; exact Nat.ne_of_lt (blk_lt (s_k BK758.out)) : gb758 ≠ gb759)); have NB759_758 := s_a ((by rw [hg]; exact Nat.ne_of_gt (blk_lt (s_k BK758.out)) : gb759 ≠ gb758)); replace HO_754009 := s_a (Kd.V_below (Kd.V_elderB (by exact s_V (HO_754009.out)) gb759 (Nat.le_of_eq hg.symm)) hb); replace HO_754010 := s_a (Kd.V_below (Kd.V_elderB (by exact s_V (HO_754010.out)) gb759 (Nat.le_of_eq hg.symm)) hb); replace HO_754011 := s_a (Kd.V_below (Kd.V_elderB (by exact s_V (HO_754011.out)) gb759 (Nat.le_of_eq hg.symm)) hb); replace HO_754012 := s_a (Kd.V_below (Kd.V_elderB (by exact s_V (HO_754012.out)) gb759 (Nat.le_of_eq hg.symm)) hb); replace HO_754016 := s_a (Kd.V_below (Kd.V_elderB (by exact s_V (HO_754016.out)) gb759 (Nat.le_of_eq hg.symm)) hb); replace HO_754017 := s_a (Kd.V_below (Kd.V_elderB (by exact s_V (HO_754017.out)) gb759 (Nat.le_of_eq hg.symm)) hb); replace HO_754021 := s_a (Kd.V_below (Kd.V_elderB (by exact s_V (HO_754021.out)) gb759 (Nat.le_of_eq hg.symm)) hb); replace HO_754022 := s_a (Kd.V_below (Kd.V_elderB (by exact s_V (HO_754022.out)) gb759 (Nat.le_of_eq hg.symm)) hb); replace BK753 := s_a (blk_below (s_k BK753.out) hb); replace BK758 := s_a (blk_below (s_k BK758.out) hb); replace HB := s_a (below_step (by exact s_b HB.out) hb); clear hb hbox hg; have hnb26 := NB759_753.out; have hnc26 := NB753_759.out; have hnb27 := NB759_758.out; have hnc27 := NB758_759.out; obtain ⟨hcz28_0, hcz28_1, hcz28_2, hcz28_3, hcz28_4, hcz28_5, hcz28_6, hcz28_7, hcz28_8, hcz28_9, hcz28_10, hcz28_11, hcz28_12, hcz28_13, hcz28_14, hcz28_15, hcz28_16, hcz28_17, hcz28_18, hcz28_19, hcz28_20, hcz28_21, hcz28_22⟩ := cells33 BK759.out; have hfz28_0 := blk_frozen BK759.out 0; have hfz28_1 := blk_frozen BK759.out 1; have hfz28_2 := blk_frozen BK759.out 2; have hfz28_3 := blk_frozen BK759.out 3; have hfz28_4 := blk_frozen BK759.out 4; have hfz28_5 := blk_frozen BK759.out 5; have hfz28_6 := blk_frozen BK759.out 6; have hfz28_7 := blk_frozen BK759.out 7; have hfz28_8 := blk_frozen BK759.out 8; have hfz28_9 := blk_frozen BK759.out 9; have hfz28_10 := blk_frozen BK759.out 10; have hfz28_11 := blk_frozen BK759.out 11; have hfz28_12 := blk_frozen BK759.out 12; have hfz28_13 := blk_frozen BK759.out 13; have hfz28_14 := blk_frozen BK759.out 14; have hfz28_15 := blk_frozen BK759.out 15; have hfz28_16 := blk_frozen BK759.out 16; have hfz28_17 := blk_frozen BK759.out 17; have hfz28_18 := blk_frozen BK759.out 18; have hfz28_19 := blk_frozen BK759.out 19; have hfz28_20 := blk_frozen BK759.out 20; have hfz28_21 := blk_frozen BK759.out 21; have hfz28_22 := blk_frozen BK759.out 22) | ((with_reducible refine gate_store (t := 33) (p := 9) rfl ?_); refine store_all rfl 33 (.tmp 9) _ rfl gb759 #[.string x754000_1, .string x754001_1, .string x754002_1, .int .i64 x754003_1, .int .i64 x754004_1, .int .i64 x754005_1, .int .i64 x754006_1, .bool x754007_1, .int .i64 x754008_1, .slice Ao17 x754009_1.length co17, .slice Ao18 x754010_1.length co18, .slice Ao19 x754011_1.length co19, .slice Ao20 x754012_1.length co20, .int .i64 x754013_1, .int .i64 x754014_1, .string x754015_1, .slice Ao21 x754016_1.length co21, .slice Ao22 x754017_1.length co22, .int .i64 x754018_1, .int .i64 x754019_1, .string x754020_1, .slice Ao23 x754021_1.length co23, .slice Ao24 x754022_1.length co24] rfl rfl 33 _ (s_k BK759.out) sz33 rfl (by first | rfl | simp [Value.oneCell']) rfl ?_; intro w29 hnb hgr; have n0_ := s_a (s_g HB.out hgr GE759.out); have n1_ := s_a (blk_grown (s_k BK753.out) hgr (some_ne NB753_759.out)); have n2_ := s_a (blk_grown (s_k BK758.out) hgr (some_ne NB758_759.out)); clear HB; clear BK753; clear BK758; have HB := n0_; have BK753 := n1_; have BK758 := n2_; clear n0_ n1_ n2_; replace BK759 := s_a (hnb); replace HO_754009 := s_a (Kd.V_grown (s_V HO_754009.out) hgr (fun _ hk_ => some_ne hk_.2)); replace HO_754010 := s_a (Kd.V_grown (s_V HO_754010.out) hgr (fun _ hk_ => some_ne hk_.2)); replace HO_754011 := s_a (Kd.V_grown (s_V HO_754011.out) hgr (fun _ hk_ => some_ne hk_.2)); replace HO_754012 := s_a (Kd.V_grown (s_V HO_754012.out) hgr (fun _ hk_ => some_ne hk_.2)); replace HO_754016 := s_a (Kd.V_grown (s_V HO_754016.out) hgr (fun _ hk_ => some_ne hk_.2)); replace HO_754017 := s_a (Kd.V_grown (s_V HO_754017.out) hgr (fun _ hk_ => some_ne hk_.2)); replace HO_754021 := s_a (Kd.V_grown (s_V HO_754021.out) hgr (fun _ hk_ => some_ne hk_.2)); replace HO_754022 := s_a (Kd.V_grown (s_V HO_754022.out) hgr (fun _ hk_ => some_ne hk_.2)); clear hnb hgr; obtain ⟨hcz30_0, hcz30_1, hcz30_2, hcz30_3⟩ := cells45 BK758.out; have hfz30_0 := blk_frozen BK758.out 0; have hfz30_1 := blk_frozen BK758.out 1; have hfz30_2 := blk_frozen BK758.out 2; have hfz30_3 := blk_frozen BK758.out 3))
      (try simp only [Act.put, List.setIfInBounds_toArray, List.set_cons_zero, List.set_cons_succ])
      go_cut [10] (fun v10 wc => ∃ (kq : Nat) (x10_11 : Int) (x760000_11 : ByteArray) (x760001_11 : ByteArray) (x760002_11 : ByteArray) (x760003_11 : Int) (x760004_11 : Int) (x760005_11 : Int) (x760006_11 : Int) (x760007_11 : Bool) (x760008_11 : Int) (x760009_11 : List (S59)) (x760010_11 : List (S62)) (x760011_11 : List ByteArray) (x760012_11 : List (S66)) (x760013_11 : Int) (x760014_11 : Int) (x760015_11 : ByteArray) (x760016_11 : List (S31)) (x760017_11 : List (S70)) (x760018_11 : Int) (x760019_11 : Int) (x760020_11 : ByteArray) (x760021_11 : List (S31)) (x760022_11 : List (S70)) (u760009 : Value) (u760010 : Value) (u760011 : Value) (u760012 : Value) (u760016 : Value) (u760017 : Value) (u760021 : Value) (u760022 : Value), v10 = .int .i64 x10_11 ∧ Aside0 (orchestratorlaw21_DeletionOnce.j1 kq l1 a2 x7_1 x10_11 x754000_1 x754001_1 x754002_1 x754003_1 x754004_1 x754005_1 x754006_1 x754007_1 x754008_1 x754009_1 x754010_1 x754011_1 x754012_1 x754013_1 x754014_1 x754015_1 x754016_1 x754017_1 x754018_1 x754019_1 x754020_1 x754021_1 x754022_1 ((rd_T45 l1 x7_1).f0) ((rd_T45 l1 x7_1).f1) ((rd_T45 l1 x7_1).f2) ((rd_T45 l1 x7_1).f3) x760000_11 x760001_11 x760002_11 x760003_11 x760004_11 x760005_11 x760006_11 x760007_11 x760008_11 x760009_11 x760010_11 x760011_11 x760012_11 x760013_11 x760014_11 x760015_11 x760016_11 x760017_11 x760018_11 x760019_11 x760020_11 x760021_11 x760022_11 = some true) ∧ Aside0 (kq ≤ k1) ∧ Aside0 (Kd.V k59 59 wc w.heap.size (fun k_ => ((P0_9_ k_ ∨ P0_10_ k_ ∨ P0_11_ k_ ∨ P0_12_ k_ ∨ P0_16_ k_ ∨ P0_17_ k_ ∨ P0_21_ k_ ∨ P0_22_ k_) ∨ w.heap.size ≤ k_) ∧ some k_ ≠ (u760010 : Value).ownBlock ∧ some k_ ≠ (u760011 : Value).ownBlock ∧ some k_ ≠ (u760012 : Value).ownBlock ∧ k_ ≠ gb753 ∧ k_ ≠ gb758 ∧ k_ ≠ gb759) (.slice Ao17 x754009_1.length co17) x754009_1) ∧ Aside0 (Kd.V k62 62 wc w.heap.size (fun k_ => ((P0_9_ k_ ∨ P0_10_ k_ ∨ P0_11_ k_ ∨ P0_12_ k_ ∨ P0_16_ k_ ∨ P0_17_ k_ ∨ P0_21_ k_ ∨ P0_22_ k_) ∨ w.heap.size ≤ k_) ∧ some k_ ≠ (u760009 : Value).ownBlock ∧ some k_ ≠ (u760011 : Value).ownBlock ∧ some k_ ≠ (u760012 : Value).ownBlock ∧ k_ ≠ gb753 ∧ k_ ≠ gb758 ∧ k_ ≠ gb759) (.slice Ao18 x754010_1.length co18) x754010_1) ∧ Aside0 (Kd.V Kd.string 9 wc w.heap.size (fun k_ => ((P0_9_ k_ ∨ P0_10_ k_ ∨ P0_11_ k_ ∨ P0_12_ k_ ∨ P0_16_ k_ ∨ P0_17_ k_ ∨ P0_21_ k_ ∨ P0_22_ k_) ∨ w.heap.size ≤ k_) ∧ some k_ ≠ (u760009 : Value).ownBlock ∧ some k_ ≠ (u760010 : Value).ownBlock ∧ some k_ ≠ (u760012 : Value).ownBlock ∧ k_ ≠ gb753 ∧ k_ ≠ gb758 ∧ k_ ≠ gb759) (.slice Ao19 x754011_1.length co19) x754011_1) ∧ Aside0 (Kd.V k66 66 wc w.heap.size (fun k_ => ((P0_9_ k_ ∨ P0_10_ k_ ∨ P0_11_ k_ ∨ P0_12_ k_ ∨ P0_16_ k_ ∨ P0_17_ k_ ∨ P0_21_ k_ ∨ P0_22_ k_) ∨ w.heap.size ≤ k_) ∧ some k_ ≠ (u760009 : Value).ownBlock ∧ some k_ ≠ (u760010 : Value).ownBlock ∧ some k_ ≠ (u760011 : Value).ownBlock ∧ k_ ≠ gb753 ∧ k_ ≠ gb758 ∧ k_ ≠ gb759) (.slice Ao20 x754012_1.length co20) x754012_1) ∧ Aside0 (Kd.V k31 31 wc w.heap.size (fun k_ => ((P0_9_ k_ ∨ P0_10_ k_ ∨ P0_11_ k_ ∨ P0_12_ k_ ∨ P0_16_ k_ ∨ P0_17_ k_ ∨ P0_21_ k_ ∨ P0_22_ k_) ∨ w.heap.size ≤ k_) ∧ some k_ ≠ (u760009 : Value).ownBlock ∧ some k_ ≠ (u760010 : Value).ownBlock ∧ some k_ ≠ (u760011 : Value).ownBlock ∧ some k_ ≠ (u760012 : Value).ownBlock ∧ k_ ≠ gb753 ∧ k_ ≠ gb758 ∧ k_ ≠ gb759) (.slice Ao21 x754016_1.length co21) x754016_1) ∧ Aside0 (Kd.V k70 70 wc w.heap.size (fun k_ => ((P0_9_ k_ ∨ P0_10_ k_ ∨ P0_11_ k_ ∨ P0_12_ k_ ∨ P0_16_ k_ ∨ P0_17_ k_ ∨ P0_21_ k_ ∨ P0_22_ k_) ∨ w.heap.size ≤ k_) ∧ some k_ ≠ (u760009 : Value).ownBlock ∧ some k_ ≠ (u760010 : Value).ownBlock ∧ some k_ ≠ (u760011 : Value).ownBlock ∧ some k_ ≠ (u760012 : Value).ownBlock ∧ k_ ≠ gb753 ∧ k_ ≠ gb758 ∧ k_ ≠ gb759) (.slice Ao22 x754017_1.length co22) x754017_1) ∧ Aside0 (Kd.V k31 31 wc w.heap.size (fun k_ => ((P0_9_ k_ ∨ P0_10_ k_ ∨ P0_11_ k_ ∨ P0_12_ k_ ∨ P0_16_ k_ ∨ P0_17_ k_ ∨ P0_21_ k_ ∨ P0_22_ k_) ∨ w.heap.size ≤ k_) ∧ some k_ ≠ (u760009 : Value).ownBlock ∧ some k_ ≠ (u760010 : Value).ownBlock ∧ some k_ ≠ (u760011 : Value).ownBlock ∧ some k_ ≠ (u760012 : Value).ownBlock ∧ k_ ≠ gb753 ∧ k_ ≠ gb758 ∧ k_ ≠ gb759) (.slice Ao23 x754021_1.length co23) x754021_1) ∧ Aside0 (Kd.V k70 70 wc w.heap.size (fun k_ => ((P0_9_ k_ ∨ P0_10_ k_ ∨ P0_11_ k_ ∨ P0_12_ k_ ∨ P0_16_ k_ ∨ P0_17_ k_ ∨ P0_21_ k_ ∨ P0_22_ k_) ∨ w.heap.size ≤ k_) ∧ some k_ ≠ (u760009 : Value).ownBlock ∧ some k_ ≠ (u760010 : Value).ownBlock ∧ some k_ ≠ (u760011 : Value).ownBlock ∧ some k_ ≠ (u760012 : Value).ownBlock ∧ k_ ≠ gb753 ∧ k_ ≠ gb758 ∧ k_ ≠ gb759) (.slice Ao24 x754022_1.length co24) x754022_1) ∧ Aside0 (Kd.R k59 59 wc w.heap.size (fun k_ => (w.heap.size ≤ k_)) u760009 x760009_11) ∧ Aside0 (Kd.R k62 62 wc w.heap.size (fun k_ => (w.heap.size ≤ k_)) u760010 x760010_11) ∧ Aside0 (Kd.R Kd.string 9 wc w.heap.size (fun k_ => (w.heap.size ≤ k_)) u760011 x760011_11) ∧ Aside0 (Kd.N k66 66 wc w.heap.size (fun k_ => ((P0_9_ k_ ∨ P0_10_ k_ ∨ P0_11_ k_ ∨ P0_12_ k_ ∨ P0_16_ k_ ∨ P0_17_ k_ ∨ P0_21_ k_ ∨ P0_22_ k_) ∨ w.heap.size ≤ k_) ∧ some k_ ≠ (u760009 : Value).ownBlock ∧ some k_ ≠ (u760010 : Value).ownBlock ∧ some k_ ≠ (u760011 : Value).ownBlock ∧ k_ ≠ gb753 ∧ k_ ≠ gb758 ∧ k_ ≠ gb759) u760012 x760012_11) ∧ Aside0 (Kd.V k31 31 wc w.heap.size (fun k_ => ((P0_9_ k_ ∨ P0_10_ k_ ∨ P0_11_ k_ ∨ P0_12_ k_ ∨ P0_16_ k_ ∨ P0_17_ k_ ∨ P0_21_ k_ ∨ P0_22_ k_) ∨ w.heap.size ≤ k_) ∧ some k_ ≠ (u760009 : Value).ownBlock ∧ some k_ ≠ (u760010 : Value).ownBlock ∧ some k_ ≠ (u760011 : Value).ownBlock ∧ some k_ ≠ (u760012 : Value).ownBlock ∧ k_ ≠ gb753 ∧ k_ ≠ gb758 ∧ k_ ≠ gb759) u760016 x760016_11) ∧ Aside0 (Kd.V k70 70 wc w.heap.size (fun k_ => ((P0_9_ k_ ∨ P0_10_ k_ ∨ P0_11_ k_ ∨ P0_12_ k_ ∨ P0_16_ k_ ∨ P0_17_ k_ ∨ P0_21_ k_ ∨ P0_22_ k_) ∨ w.heap.size ≤ k_) ∧ some k_ ≠ (u760009 : Value).ownBlock ∧ some k_ ≠ (u760010 : Value).ownBlock ∧ some k_ ≠ (u760011 : Value).ownBlock ∧ some k_ ≠ (u760012 : Value).ownBlock ∧ k_ ≠ gb753 ∧ k_ ≠ gb758 ∧ k_ ≠ gb759) u760017 x760017_11) ∧ Aside0 (Kd.V k31 31 wc w.heap.size (fun k_ => ((P0_9_ k_ ∨ P0_10_ k_ ∨ P0_11_ k_ ∨ P0_12_ k_ ∨ P0_16_ k_ ∨ P0_17_ k_ ∨ P0_21_ k_ ∨ P0_22_ k_) ∨ w.heap.size ≤ k_) ∧ some k_ ≠ (u760009 : Value).ownBlock ∧ some k_ ≠ (u760010 : Value).ownBlock ∧ some k_ ≠ (u760011 : Value).ownBlock ∧ some k_ ≠ (u760012 : Value).ownBlock ∧ k_ ≠ gb753 ∧ k_ ≠ gb758 ∧ k_ ≠ gb759) u760021 x760021_11) ∧ Aside0 (Kd.V k70 70 wc w.heap.size (fun k_ => ((P0_9_ k_ ∨ P0_10_ k_ ∨ P0_11_ k_ ∨ P0_12_ k_ ∨ P0_16_ k_ ∨ P0_17_ k_ ∨ P0_21_ k_ ∨ P0_22_ k_) ∨ w.heap.size ≤ k_) ∧ some k_ ≠ (u760009 : Value).ownBlock ∧ some k_ ≠ (u760010 : Value).ownBlock ∧ some k_ ≠ (u760011 : Value).ownBlock ∧ some k_ ≠ (u760012 : Value).ownBlock ∧ k_ ≠ gb753 ∧ k_ ≠ gb758 ∧ k_ ≠ gb759) u760022 x760022_11) ∧ Aside0 (wc.heap[gb753]? = some (.cells #[.string x754000_1, .string x754001_1, .string x754002_1, .int .i64 x754003_1, .int .i64 x754004_1, .int .i64 x754005_1, .int .i64 x754006_1, .bool x754007_1, .int .i64 x754008_1, (.slice Ao17 x754009_1.length co17), (.slice Ao18 x754010_1.length co18), (.slice Ao19 x754011_1.length co19), (.slice Ao20 x754012_1.length co20), .int .i64 x754013_1, .int .i64 x754014_1, .string x754015_1, (.slice Ao21 x754016_1.length co21), (.slice Ao22 x754017_1.length co22), .int .i64 x754018_1, .int .i64 x754019_1, .string x754020_1, (.slice Ao23 x754021_1.length co23), (.slice Ao24 x754022_1.length co24)] 33 (0, 0))) ∧ Aside0 (wc.heap[gb758]? = some (.cells #[.string ((rd_T45 l1 x7_1).f0), .int .i64 ((rd_T45 l1 x7_1).f1), .int .i64 ((rd_T45 l1 x7_1).f2), .int .i64 ((rd_T45 l1 x7_1).f3)] 45 (0, 0))) ∧ Aside0 (wc.heap[gb759]? = some (.cells #[.string x760000_11, .string x760001_11, .string x760002_11, .int .i64 x760003_11, .int .i64 x760004_11, .int .i64 x760005_11, .int .i64 x760006_11, .bool x760007_11, .int .i64 x760008_11, u760009, u760010, u760011, u760012, .int .i64 x760013_11, .int .i64 x760014_11, .string x760015_11, u760016, u760017, .int .i64 x760018_11, .int .i64 x760019_11, .string x760020_11, u760021, u760022] 33 (0, 0))) ∧ Aside0 (Below w.heap.size w wc))
      case first =>
       have H := HC12.out
       clear HC12
       by_cases c31 : ((rd_T45 l1 x7_1).f0).toList = ([] : List UInt8)
       ·rw [if_pos c31] at H
        have c31b0 : (((rd_T45 l1 x7_1).f0).toList == ([] : List UInt8)) = true := beq_iff_eq.mpr c31
        have c31b1 : (((rd_T45 l1 x7_1).f0).toList != ([] : List UInt8)) = false := bne_eq_false_iff_eq.mpr c31
        clear c31
        (first | rw [c31b0] | rw [c31b1] | rw [nil_not c31b1] | rw [nil_is c31b0] | (simp only [i64_w, i32_w]; rw [c31b0]) | skip)
        replace H := Option.bind_eq_some_iff.mp H
        obtain ⟨⟨t760, t761, t762, t763, t764, t765, t766, t767, t768, t769, t772, t775, t778, t781, t782, t783, t784, t787, t790, t791, t792, t793, t796, t799⟩, A320, H⟩ := H
        (try dsimp only at H)
        have A32 := s_a A320
        clear A320
        have H' := s_a H
        clear H
        go_wp2_with (first | ((with_reducible refine gate_dst (N := 37) rfl ?_); (try (refine gate_guard (by rfl) ?_; dsimp only)); refine wpList_load_row rfl 33 (.tmp 3) rfl gb753 rfl 33 _ (0, 0) _ (s_k BK753.out) Try.underlying33 rfl sz33 ?_; have hnb33 := NB758_753.out; have hnc33 := NB753_758.out; have hnb34 := NB758_759.out; have hnc34 := NB759_758.out; obtain ⟨hcz35_0, hcz35_1, hcz35_2, hcz35_3⟩ := cells45 BK758.out) | ((with_reducible refine gate_callee (f := 8) rfl ?_); refine goesL_ (some 44) rfl rfl Try.func8 (by kernel_rfl) rfl #[.agg #[.string x754000_1, .string x754001_1, .string x754002_1, .int .i64 x754003_1, .int .i64 x754004_1, .int .i64 x754005_1, .int .i64 x754006_1, .bool x754007_1, .int .i64 x754008_1, .slice Ao17 x754009_1.length co17, .slice Ao18 x754010_1.length co18, .slice Ao19 x754011_1.length co19, .slice Ao20 x754012_1.length co20, .int .i64 x754013_1, .int .i64 x754014_1, .string x754015_1, .slice Ao21 x754016_1.length co21, .slice Ao22 x754017_1.length co22, .int .i64 x754018_1, .int .i64 x754019_1, .string x754020_1, .slice Ao23 x754021_1.length co23, .slice Ao24 x754022_1.length co24], .int .i64 ((rd_T45 l1 x7_1).f1), .int .i64 ((rd_T45 l1 x7_1).f2), .int .i64 ((rd_T45 l1 x7_1).f3)] rfl (by (try simp only [List.map_toArray, List.map_cons, List.map_nil]); first | done | rfl | (simp only [List.length_drop, List.length_take]; rfl)) ?_; (with_reducible refine (deletion_Begin.calls k1 _ _ _ _ _ _ _ _ _ _ _ _ _ _ _ _ _ _ (fun k_ => (((((P0_9_ k_ ∨ P0_10_ k_ ∨ P0_11_ k_ ∨ P0_12_ k_ ∨ P0_16_ k_ ∨ P0_17_ k_ ∨ P0_21_ k_ ∨ P0_22_ k_) ∨ w.heap.size ≤ k_) ∧ k_ ≠ gb753) ∧ k_ ≠ gb758) ∧ k_ ≠ gb759)) _ _ x754012_1 _ _ _ (fun k_ => (((((P0_9_ k_ ∨ P0_10_ k_ ∨ P0_11_ k_ ∨ P0_12_ k_ ∨ P0_16_ k_ ∨ P0_17_ k_ ∨ P0_21_ k_ ∨ P0_22_ k_) ∨ w.heap.size ≤ k_) ∧ k_ ≠ gb753) ∧ k_ ≠ gb758) ∧ k_ ≠ gb759)) _ _ x754016_1 (fun k_ => (((((P0_9_ k_ ∨ P0_10_ k_ ∨ P0_11_ k_ ∨ P0_12_ k_ ∨ P0_16_ k_ ∨ P0_17_ k_ ∨ P0_21_ k_ ∨ P0_22_ k_) ∨ w.heap.size ≤ k_) ∧ k_ ≠ gb753) ∧ k_ ≠ gb758) ∧ k_ ≠ gb759)) _ _ x754017_1 _ _ _ (fun k_ => (((((P0_9_ k_ ∨ P0_10_ k_ ∨ P0_11_ k_ ∨ P0_12_ k_ ∨ P0_16_ k_ ∨ P0_17_ k_ ∨ P0_21_ k_ ∨ P0_22_ k_) ∨ w.heap.size ≤ k_) ∧ k_ ≠ gb753) ∧ k_ ≠ gb758) ∧ k_ ≠ gb759)) _ _ x754021_1 (fun k_ => (((((P0_9_ k_ ∨ P0_10_ k_ ∨ P0_11_ k_ ∨ P0_12_ k_ ∨ P0_16_ k_ ∨ P0_17_ k_ ∨ P0_21_ k_ ∨ P0_22_ k_) ∨ w.heap.size ≤ k_) ∧ k_ ≠ gb753) ∧ k_ ≠ gb758) ∧ k_ ≠ gb759)) _ _ x754022_1 _ _ _ _ _ _ _ _ _ _ _ _ _ _ _ _ _ _ _ _ _ _ _ _ _ _ _ _ ?side1 ?side2 ?side3 ?side4 ?side5 ?side6 ?side7 ?side8 ?side9 ?side10 ?side11 A32.out).mono ?_); (case side1 => exact s_C (Kd.V_reads' HO_754009.out).2.2); (case side2 => exact (Kd.V_reads' HO_754009.out).2.1); (case side3 => exact s_C (Kd.V_reads' HO_754010.out).2.2); (case side4 => exact (Kd.V_reads' HO_754010.out).2.1); (case side5 => exact s_C (Kd.V_reads' HO_754011.out).2.2); (case side6 => exact (Kd.V_reads' HO_754011.out).2.1); (case side7 => exact HO_754012.out); (case side8 => exact HO_754016.out); (case side9 => exact HO_754017.out); (case side10 => exact HO_754021.out); (case side11 => exact HO_754022.out); rintro e w36 ⟨v770, v773, v776, v779, v785, v788, v794, v797, rfl, ho0, ho1, ho2, ho3, ho4, ho5, ho6, ho7, hb⟩; refine ⟨_, rfl, ?_⟩; have HO771 := s_a (Kd.R_lower (Kd.R_newM (M := fun k_ => (w.heap.size ≤ k_)) (Kd.R_mono (ok' := fun k_ => True) ho0 (fun _ hk_ => trivial)) (below_size (by exact s_b HB.out)) (fun k_ h_ => h_)) (below_size (by exact s_b HB.out))); have HO774 := s_a (Kd.R_lower (Kd.R_newM (M := fun k_ => (w.heap.size ≤ k_)) (Kd.R_mono (ok' := fun k_ => True) ho1 (fun _ hk_ => trivial)) (below_size (by exact s_b HB.out)) (fun k_ h_ => h_)) (below_size (by exact s_b HB.out))); have HO777 := s_a (Kd.R_lower (Kd.R_newM (M := fun k_ => (w.heap.size ≤ k_)) (Kd.R_mono (ok' := fun k_ => True) ho2 (fun _ hk_ => trivial)) (below_size (by exact s_b HB.out)) (fun k_ h_ => h_)) (below_size (by exact s_b HB.out))); have HO780 := s_a (Kd.N_lower (Kd.N_mono (ok' := fun k_ => ((P0_9_ k_ ∨ P0_10_ k_ ∨ P0_11_ k_ ∨ P0_12_ k_ ∨ P0_16_ k_ ∨ P0_17_ k_ ∨ P0_21_ k_ ∨ P0_22_ k_) ∨ w.heap.size ≤ k_) ∧ some k_ ≠ (v770 : Value).ownBlock ∧ some k_ ≠ (v773 : Value).ownBlock ∧ some k_ ≠ (v776 : Value).ownBlock ∧ k_ ≠ gb753 ∧ k_ ≠ gb758 ∧ k_ ≠ gb759) ho3 (fun k_ hk_ => ⟨Or.elim hk_.1 (fun hs_ => Or.elim hs_ (fun hs_ => hs_.1.1.1) (fun hs_ => Or.elim hs_ (fun hs_ => hs_.1.1.1) (fun hs_ => Or.elim hs_ (fun hs_ => hs_.1.1.1) (fun hs_ => Or.elim hs_ (fun hs_ => hs_.1.1.1) (fun hs_ => hs_.1.1.1))))) (fun hn_ => (.inr (Nat.le_trans (below_size (by exact s_b HB.out)) hn_))), hk_.2.1, hk_.2.2.1, hk_.2.2.2, Or.elim hk_.1 (fun hs_ => Or.elim hs_ (fun hs_ => hs_.1.1.2) (fun hs_ => Or.elim hs_ (fun hs_ => hs_.1.1.2) (fun hs_ => Or.elim hs_ (fun hs_ => hs_.1.1.2) (fun hs_ => Or.elim hs_ (fun hs_ => hs_.1.1.2) (fun hs_ => hs_.1.1.2))))) (fun hn_ => (Kd.freshB (s_k BK753.out) k_ hn_)), Or.elim hk_.1 (fun hs_ => Or.elim hs_ (fun hs_ => hs_.1.2) (fun hs_ => Or.elim hs_ (fun hs_ => hs_.1.2) (fun hs_ => Or.elim hs_ (fun hs_ => hs_.1.2) (fun hs_ => Or.elim hs_ (fun hs_ => hs_.1.2) (fun hs_ => hs_.1.2))))) (fun hn_ => (Kd.freshB (s_k BK758.out) k_ hn_)), Or.elim hk_.1 (fun hs_ => Or.elim hs_ (fun hs_ => hs_.2) (fun hs_ => Or.elim hs_ (fun hs_ => hs_.2) (fun hs_ => Or.elim hs_ (fun hs_ => hs_.2) (fun hs_ => Or.elim hs_ (fun hs_ => hs_.2) (fun hs_ => hs_.2))))) (fun hn_ => (Kd.freshB (s_k BK759.out) k_ hn_))⟩)) (below_size (by exact s_b HB.out))); have hm_ : ∀ k_, V_ok ho4 k_ → (fun k_ => ((P0_9_ k_ ∨ P0_10_ k_ ∨ P0_11_ k_ ∨ P0_12_ k_ ∨ P0_16_ k_ ∨ P0_17_ k_ ∨ P0_21_ k_ ∨ P0_22_ k_) ∨ w.heap.size ≤ k_) ∧ some k_ ≠ (v770 : Value).ownBlock ∧ some k_ ≠ (v773 : Value).ownBlock ∧ some k_ ≠ (v776 : Value).ownBlock ∧ some k_ ≠ (v779 : Value).ownBlock ∧ k_ ≠ gb753 ∧ k_ ≠ gb758 ∧ k_ ≠ gb759) k_ := (fun k_ hk_ => ⟨Or.elim hk_.1 (fun hs_ => Or.elim hs_ (fun hs_ => hs_.1.1.1) (fun hs_ => Or.elim hs_ (fun hs_ => hs_.1.1.1) (fun hs_ => Or.elim hs_ (fun hs_ => hs_.1.1.1) (fun hs_ => Or.elim hs_ (fun hs_ => hs_.1.1.1) (fun hs_ => hs_.1.1.1))))) (fun hn_ => (.inr (Nat.le_trans (below_size (by exact s_b HB.out)) hn_))), hk_.2.1, hk_.2.2.1, hk_.2.2.2.1, hk_.2.2.2.2, Or.elim hk_.1 (fun hs_ => Or.elim hs_ (fun hs_ => hs_.1.1.2) (fun hs_ => Or.elim hs_ (fun hs_ => hs_.1.1.2) (fun hs_ => Or.elim hs_ (fun hs_ => hs_.1.1.2) (fun hs_ => Or.elim hs_ (fun hs_ => hs_.1.1.2) (fun hs_ => hs_.1.1.2))))) (fun hn_ => (Kd.freshB (s_k BK753.out) k_ hn_)), Or.elim hk_.1 (fun hs_ => Or.elim hs_ (fun hs_ => hs_.1.2) (fun hs_ => Or.elim hs_ (fun hs_ => hs_.1.2) (fun hs_ => Or.elim hs_ (fun hs_ => hs_.1.2) (fun hs_ => Or.elim hs_ (fun hs_ => hs_.1.2) (fun hs_ => hs_.1.2))))) (fun hn_ => (Kd.freshB (s_k BK758.out) k_ hn_)), Or.elim hk_.1 (fun hs_ => Or.elim hs_ (fun hs_ => hs_.2) (fun hs_ => Or.elim hs_ (fun hs_ => hs_.2) (fun hs_ => Or.elim hs_ (fun hs_ => hs_.2) (fun hs_ => Or.elim hs_ (fun hs_ => hs_.2) (fun hs_ => hs_.2))))) (fun hn_ => (Kd.freshB (s_k BK759.out) k_ hn_))⟩); have HO786 := s_a (Kd.V_lower (Kd.V_mono ho4 hm_) (below_size (by exact s_b HB.out))); have HO789 := s_a (Kd.V_lower (Kd.V_mono ho5 hm_) (below_size (by exact s_b HB.out))); have HO795 := s_a (Kd.V_lower (Kd.V_mono ho6 hm_) (below_size (by exact s_b HB.out))); have HO798 := s_a (Kd.V_lower (Kd.V_mono ho7 hm_) (below_size (by exact s_b HB.out))); clear hm_; replace HO_754009 := s_a (Kd.V_mono (Kd.V_told (Kd.V_told (Kd.V_told (Kd.V_told (Kd.V_old (by exact s_V (HO_754009.out)) hb) (Kd.R_base ho0)) (Kd.R_base ho1)) (Kd.R_base ho2)) (Kd.N_base ho3)) (fun _ h_ => h_.1)); replace HO_754010 := s_a (Kd.V_mono (Kd.V_told (Kd.V_told (Kd.V_told (Kd.V_told (Kd.V_old (by exact s_V (HO_754010.out)) hb) (Kd.R_base ho0)) (Kd.R_base ho1)) (Kd.R_base ho2)) (Kd.N_base ho3)) (fun _ h_ => h_.1)); replace HO_754011 := s_a (Kd.V_mono (Kd.V_told (Kd.V_told (Kd.V_told (Kd.V_told (Kd.V_old (by exact s_V (HO_754011.out)) hb) (Kd.R_base ho0)) (Kd.R_base ho1)) (Kd.R_base ho2)) (Kd.N_base ho3)) (fun _ h_ => h_.1)); replace HO_754012 := s_a (Kd.V_mono (Kd.V_told (Kd.V_told (Kd.V_told (Kd.V_told (Kd.V_old (by exact s_V (HO_754012.out)) hb) (Kd.R_base ho0)) (Kd.R_base ho1)) (Kd.R_base ho2)) (Kd.N_base ho3)) (fun _ h_ => h_.1)); replace HO_754016 := s_a (Kd.V_mono (Kd.V_told (Kd.V_told (Kd.V_told (Kd.V_told (Kd.V_old (by exact s_V (HO_754016.out)) hb) (Kd.R_base ho0)) (Kd.R_base ho1)) (Kd.R_base ho2)) (Kd.N_base ho3)) (fun _ h_ => h_.1)); replace HO_754017 := s_a (Kd.V_mono (Kd.V_told (Kd.V_told (Kd.V_told (Kd.V_told (Kd.V_old (by exact s_V (HO_754017.out)) hb) (Kd.R_base ho0)) (Kd.R_base ho1)) (Kd.R_base ho2)) (Kd.N_base ho3)) (fun _ h_ => h_.1)); replace HO_754021 := s_a (Kd.V_mono (Kd.V_told (Kd.V_told (Kd.V_told (Kd.V_told (Kd.V_old (by exact s_V (HO_754021.out)) hb) (Kd.R_base ho0)) (Kd.R_base ho1)) (Kd.R_base ho2)) (Kd.N_base ho3)) (fun _ h_ => h_.1)); replace HO_754022 := s_a (Kd.V_mono (Kd.V_told (Kd.V_told (Kd.V_told (Kd.V_told (Kd.V_old (by exact s_V (HO_754022.out)) hb) (Kd.R_base ho0)) (Kd.R_base ho1)) (Kd.R_base ho2)) (Kd.N_base ho3)) (fun _ h_ => h_.1)); replace BK753 := s_a (blk_below (s_k BK753.out) hb); replace BK758 := s_a (blk_below (s_k BK758.out) hb); replace BK759 := s_a (blk_below (s_k BK759.out) hb); replace HB := s_a (below_step (by exact s_b HB.out) hb); (try clear hb); (try clear ho0); (try clear ho1); (try clear ho2); (try clear ho3); (try clear ho4); (try clear ho5); (try clear ho6); (try clear ho7); have hnb37 := NB759_753.out; have hnc37 := NB753_759.out; obtain ⟨hcz38_0, hcz38_1, hcz38_2, hcz38_3, hcz38_4, hcz38_5, hcz38_6, hcz38_7, hcz38_8, hcz38_9, hcz38_10, hcz38_11, hcz38_12, hcz38_13, hcz38_14, hcz38_15, hcz38_16, hcz38_17, hcz38_18, hcz38_19, hcz38_20, hcz38_21, hcz38_22⟩ := cells33 BK759.out; have hfz38_0 := blk_frozen BK759.out 0; have hfz38_1 := blk_frozen BK759.out 1; have hfz38_2 := blk_frozen BK759.out 2; have hfz38_3 := blk_frozen BK759.out 3; have hfz38_4 := blk_frozen BK759.out 4; have hfz38_5 := blk_frozen BK759.out 5; have hfz38_6 := blk_frozen BK759.out 6; have hfz38_7 := blk_frozen BK759.out 7; have hfz38_8 := blk_frozen BK759.out 8; have hfz38_9 := blk_frozen BK759.out 9; have hfz38_10 := blk_frozen BK759.out 10; have hfz38_11 := blk_frozen BK759.out 11; have hfz38_12 := blk_frozen BK759.out 12; have hfz38_13 := blk_frozen BK759.out 13; have hfz38_14 := blk_frozen BK759.out 14; have hfz38_15 := blk_frozen BK759.out 15; have hfz38_16 := blk_frozen BK759.out 16; have hfz38_17 := blk_frozen BK759.out 17; have hfz38_18 := blk_frozen BK759.out 18; have hfz38_19 := blk_frozen BK759.out 19; have hfz38_20 := blk_frozen BK759.out 20; have hfz38_21 := blk_frozen BK759.out 21; have hfz38_22 := blk_frozen BK759.out 22; obtain ⟨Ao39, co39, eo39⟩ := Kd.R_slice HO771.out; subst eo39; obtain ⟨Ao40, co40, eo40⟩ := Kd.R_slice HO774.out; subst eo40; obtain ⟨Ao41, co41, eo41⟩ := Kd.R_slice HO777.out; subst eo41; obtain ⟨Ao42, co42, eo42⟩ := Kd.N_slice HO780.out; subst eo42; obtain ⟨Ao43, co43, eo43⟩ := Kd.V_slice HO786.out; subst eo43; obtain ⟨Ao44, co44, eo44⟩ := Kd.V_slice HO789.out; subst eo44; obtain ⟨Ao45, co45, eo45⟩ := Kd.V_slice HO795.out; subst eo45; obtain ⟨Ao46, co46, eo46⟩ := Kd.V_slice HO798.out; subst eo46) | ((with_reducible refine gate_store (t := 33) (p := 9) rfl ?_); refine store_all rfl 33 (.tmp 9) _ rfl gb759 #[.string t760, .string t761, .string t762, .int .i64 t763, .int .i64 t764, .int .i64 t765, .int .i64 t766, .bool t767, .int .i64 t768, .slice Ao39 t769.length co39, .slice Ao40 t772.length co40, .slice Ao41 t775.length co41, .slice Ao42 t778.length co42, .int .i64 t781, .int .i64 t782, .string t783, .slice Ao43 t784.length co43, .slice Ao44 t787.length co44, .int .i64 t790, .int .i64 t791, .string t792, .slice Ao45 t793.length co45, .slice Ao46 t796.length co46] rfl rfl 33 _ (s_k BK759.out) sz33 rfl (by first | rfl | simp [Value.oneCell']) rfl ?_; intro w47 hnb hgr; have n0_ := s_a (s_g HB.out hgr GE759.out); have n1_ := s_a (blk_grown (s_k BK753.out) hgr (some_ne NB753_759.out)); have n2_ := s_a (blk_grown (s_k BK758.out) hgr (some_ne NB758_759.out)); have n3_ := s_a (Kd.R_mono (Kd.R_grown (Kd.R_types HO771.out BK759.out (by decide)) hgr (fun _ hk_ => some_ne hk_.2)) (fun _ hk_ => hk_.1)); have n4_ := s_a (Kd.R_mono (Kd.R_grown (Kd.R_types HO774.out BK759.out (by decide)) hgr (fun _ hk_ => some_ne hk_.2)) (fun _ hk_ => hk_.1)); have n5_ := s_a (Kd.R_mono (Kd.R_grown (Kd.R_types HO777.out BK759.out (by decide)) hgr (fun _ hk_ => some_ne hk_.2)) (fun _ hk_ => hk_.1)); clear HB; clear BK753; clear BK758; clear HO771; clear HO774; clear HO777; have HB := n0_; have BK753 := n1_; have BK758 := n2_; have HO771 := n3_; have HO774 := n4_; have HO777 := n5_; clear n0_ n1_ n2_ n3_ n4_ n5_; replace BK759 := s_a (hnb); replace HO_754009 := s_a (Kd.V_grown (s_V HO_754009.out) hgr (fun _ hk_ => some_ne hk_.1.1.1.1.2)); replace HO_754010 := s_a (Kd.V_grown (s_V HO_754010.out) hgr (fun _ hk_ => some_ne hk_.1.1.1.1.2)); replace HO_754011 := s_a (Kd.V_grown (s_V HO_754011.out) hgr (fun _ hk_ => some_ne hk_.1.1.1.1.2)); replace HO_754012 := s_a (Kd.V_grown (s_V HO_754012.out) hgr (fun _ hk_ => some_ne hk_.1.1.1.1.2)); replace HO_754016 := s_a (Kd.V_grown (s_V HO_754016.out) hgr (fun _ hk_ => some_ne hk_.1.1.1.1.2)); replace HO_754017 := s_a (Kd.V_grown (s_V HO_754017.out) hgr (fun _ hk_ => some_ne hk_.1.1.1.1.2)); replace HO_754021 := s_a (Kd.V_grown (s_V HO_754021.out) hgr (fun _ hk_ => some_ne hk_.1.1.1.1.2)); replace HO_754022 := s_a (Kd.V_grown (s_V HO_754022.out) hgr (fun _ hk_ => some_ne hk_.1.1.1.1.2)); replace HO780 := s_a (Kd.N_grown (s_N HO780.out) hgr (fun _ hk_ => some_ne hk_.2.2.2.2.2.2)); replace HO786 := s_a (Kd.V_grown (s_V HO786.out) hgr (fun _ hk_ => some_ne hk_.2.2.2.2.2.2.2)); replace HO789 := s_a (Kd.V_grown (s_V HO789.out) hgr (fun _ hk_ => some_ne hk_.2.2.2.2.2.2.2)); replace HO795 := s_a (Kd.V_grown (s_V HO795.out) hgr (fun _ hk_ => some_ne hk_.2.2.2.2.2.2.2)); replace HO798 := s_a (Kd.V_grown (s_V HO798.out) hgr (fun _ hk_ => some_ne hk_.2.2.2.2.2.2.2)); clear hnb hgr))
        go_meet
        case rel => exact ⟨_, (t799), (t760), (t761), (t762), (t763), (t764), (t765), (t766), (t767), (t768), (t769), (t772), (t775), (t778), (t781), (t782), (t783), (t784), (t787), (t790), (t791), (t792), (t793), (t796), (.slice Ao39 t769.length co39), (.slice Ao40 t772.length co40), (.slice Ao41 t775.length co41), (.slice Ao42 t778.length co42), (.slice Ao43 t784.length co43), (.slice Ao44 t787.length co44), (.slice Ao45 t793.length co45), (.slice Ao46 t796.length co46), (by first | rfl | (simp; done) | (simp [*]; done)), H', ⟨by have := HK1.out; first | omega | exact Nat.le_refl _⟩, ⟨by exact s_V (Kd.V_mono HO_754009.out (fun _ hk => ⟨hk.1.1.1.1.1.1.1, ⟨hk.1.1.2, ⟨hk.1.2, ⟨hk.2, ⟨hk.1.1.1.1.1.1.2, ⟨hk.1.1.1.1.1.2, hk.1.1.1.1.2⟩⟩⟩⟩⟩⟩))⟩, ⟨by exact s_V (Kd.V_mono HO_754010.out (fun _ hk => ⟨hk.1.1.1.1.1.1.1, ⟨hk.1.1.1.2, ⟨hk.1.2, ⟨hk.2, ⟨hk.1.1.1.1.1.1.2, ⟨hk.1.1.1.1.1.2, hk.1.1.1.1.2⟩⟩⟩⟩⟩⟩))⟩, ⟨by exact s_V (Kd.V_mono HO_754011.out (fun _ hk => ⟨hk.1.1.1.1.1.1.1, ⟨hk.1.1.1.2, ⟨hk.1.1.2, ⟨hk.2, ⟨hk.1.1.1.1.1.1.2, ⟨hk.1.1.1.1.1.2, hk.1.1.1.1.2⟩⟩⟩⟩⟩⟩))⟩, ⟨by exact s_V (Kd.V_mono HO_754012.out (fun _ hk => ⟨hk.1.1.1.1.1.1.1, ⟨hk.1.1.1.2, ⟨hk.1.1.2, ⟨hk.1.2, ⟨hk.1.1.1.1.1.1.2, ⟨hk.1.1.1.1.1.2, hk.1.1.1.1.2⟩⟩⟩⟩⟩⟩))⟩, ⟨by exact s_V (Kd.V_mono HO_754016.out (fun _ hk => ⟨hk.1.1.1.1.1.1.1, ⟨hk.1.1.1.2, ⟨hk.1.1.2, ⟨hk.1.2, ⟨hk.2, ⟨hk.1.1.1.1.1.1.2, ⟨hk.1.1.1.1.1.2, hk.1.1.1.1.2⟩⟩⟩⟩⟩⟩⟩))⟩, ⟨by exact s_V (Kd.V_mono HO_754017.out (fun _ hk => ⟨hk.1.1.1.1.1.1.1, ⟨hk.1.1.1.2, ⟨hk.1.1.2, ⟨hk.1.2, ⟨hk.2, ⟨hk.1.1.1.1.1.1.2, ⟨hk.1.1.1.1.1.2, hk.1.1.1.1.2⟩⟩⟩⟩⟩⟩⟩))⟩, ⟨by exact s_V (Kd.V_mono HO_754021.out (fun _ hk => ⟨hk.1.1.1.1.1.1.1, ⟨hk.1.1.1.2, ⟨hk.1.1.2, ⟨hk.1.2, ⟨hk.2, ⟨hk.1.1.1.1.1.1.2, ⟨hk.1.1.1.1.1.2, hk.1.1.1.1.2⟩⟩⟩⟩⟩⟩⟩))⟩, ⟨by exact s_V (Kd.V_mono HO_754022.out (fun _ hk => ⟨hk.1.1.1.1.1.1.1, ⟨hk.1.1.1.2, ⟨hk.1.1.2, ⟨hk.1.2, ⟨hk.2, ⟨hk.1.1.1.1.1.1.2, ⟨hk.1.1.1.1.1.2, hk.1.1.1.1.2⟩⟩⟩⟩⟩⟩⟩))⟩, ⟨by exact s_R (Kd.R_mono HO771.out (fun _ hk => hk.1))⟩, ⟨by exact s_R (Kd.R_mono HO774.out (fun _ hk => hk.1))⟩, ⟨by exact s_R (Kd.R_mono HO777.out (fun _ hk => hk.1))⟩, ⟨by exact s_N (HO780.out)⟩, ⟨by exact s_V (HO786.out)⟩, ⟨by exact s_V (HO789.out)⟩, ⟨by exact s_V (HO795.out)⟩, ⟨by exact s_V (HO798.out)⟩, ⟨by exact s_k BK753.out⟩, ⟨by exact s_k BK758.out⟩, ⟨by exact s_k BK759.out⟩, ⟨by exact s_b HB.out⟩⟩
       ·rw [if_neg c31] at H
        have c31b0 : (((rd_T45 l1 x7_1).f0).toList == ([] : List UInt8)) = false := beq_eq_false_iff_ne.mpr c31
        have c31b1 : (((rd_T45 l1 x7_1).f0).toList != ([] : List UInt8)) = true := bne_iff_ne.mpr c31
        (first | rw [c31b0] | rw [c31b1] | rw [nil_not c31b1] | rw [nil_is c31b0] | (simp only [i64_w, i32_w]; rw [c31b0]) | skip)
        replace H := Option.bind_eq_some_iff.mp H
        obtain ⟨⟨t800, t801, t802, t803, t804, t805, t806, t807, t808, t809, t812, t815, t818, t821, t822, t823, t824, t827, t830, t831, t832, t833, t836, t839⟩, A480, H⟩ := H
        (try dsimp only at H)
        have A48 := s_a A480
        clear A480
        have H' := s_a H
        clear H
        go_wp2_with (first | ((with_reducible refine gate_dst (N := 30) rfl ?_); (try (refine gate_guard (by rfl) ?_; dsimp only)); refine wpList_load_row rfl 33 (.tmp 3) rfl gb753 rfl 33 _ (0, 0) _ (s_k BK753.out) Try.underlying33 rfl sz33 ?_; have hnb49 := NB758_753.out; have hnc49 := NB753_758.out; have hnb50 := NB758_759.out; have hnc50 := NB759_758.out; obtain ⟨hcz51_0, hcz51_1, hcz51_2, hcz51_3⟩ := cells45 BK758.out) | ((with_reducible refine gate_callee (f := 12) rfl ?_); refine goesL_ (some 33) rfl rfl Try.func12 (by kernel_rfl) rfl #[.agg #[.string x754000_1, .string x754001_1, .string x754002_1, .int .i64 x754003_1, .int .i64 x754004_1, .int .i64 x754005_1, .int .i64 x754006_1, .bool x754007_1, .int .i64 x754008_1, .slice Ao17 x754009_1.length co17, .slice Ao18 x754010_1.length co18, .slice Ao19 x754011_1.length co19, .slice Ao20 x754012_1.length co20, .int .i64 x754013_1, .int .i64 x754014_1, .string x754015_1, .slice Ao21 x754016_1.length co21, .slice Ao22 x754017_1.length co22, .int .i64 x754018_1, .int .i64 x754019_1, .string x754020_1, .slice Ao23 x754021_1.length co23, .slice Ao24 x754022_1.length co24], .string ((rd_T45 l1 x7_1).f0)] rfl (by (try simp only [List.map_toArray, List.map_cons, List.map_nil]); first | done | rfl | (simp only [List.length_drop, List.length_take]; rfl)) ?_; (with_reducible refine (deletion_Finish.calls k1 _ _ _ _ _ _ _ _ _ _ _ _ _ _ _ _ _ _ (fun k_ => (((((P0_9_ k_ ∨ P0_10_ k_ ∨ P0_11_ k_ ∨ P0_12_ k_ ∨ P0_16_ k_ ∨ P0_17_ k_ ∨ P0_21_ k_ ∨ P0_22_ k_) ∨ w.heap.size ≤ k_) ∧ k_ ≠ gb753) ∧ k_ ≠ gb758) ∧ k_ ≠ gb759)) _ _ x754012_1 _ _ _ (fun k_ => (((((P0_9_ k_ ∨ P0_10_ k_ ∨ P0_11_ k_ ∨ P0_12_ k_ ∨ P0_16_ k_ ∨ P0_17_ k_ ∨ P0_21_ k_ ∨ P0_22_ k_) ∨ w.heap.size ≤ k_) ∧ k_ ≠ gb753) ∧ k_ ≠ gb758) ∧ k_ ≠ gb759)) _ _ x754016_1 (fun k_ => (((((P0_9_ k_ ∨ P0_10_ k_ ∨ P0_11_ k_ ∨ P0_12_ k_ ∨ P0_16_ k_ ∨ P0_17_ k_ ∨ P0_21_ k_ ∨ P0_22_ k_) ∨ w.heap.size ≤ k_) ∧ k_ ≠ gb753) ∧ k_ ≠ gb758) ∧ k_ ≠ gb759)) _ _ x754017_1 _ _ _ (fun k_ => (((((P0_9_ k_ ∨ P0_10_ k_ ∨ P0_11_ k_ ∨ P0_12_ k_ ∨ P0_16_ k_ ∨ P0_17_ k_ ∨ P0_21_ k_ ∨ P0_22_ k_) ∨ w.heap.size ≤ k_) ∧ k_ ≠ gb753) ∧ k_ ≠ gb758) ∧ k_ ≠ gb759)) _ _ x754021_1 (fun k_ => (((((P0_9_ k_ ∨ P0_10_ k_ ∨ P0_11_ k_ ∨ P0_12_ k_ ∨ P0_16_ k_ ∨ P0_17_ k_ ∨ P0_21_ k_ ∨ P0_22_ k_) ∨ w.heap.size ≤ k_) ∧ k_ ≠ gb753) ∧ k_ ≠ gb758) ∧ k_ ≠ gb759)) _ _ x754022_1 _ _ _ _ _ _ _ _ _ _ _ _ _ _ _ _ _ _ _ _ _ _ _ _ _ _ ?side1 ?side2 ?side3 ?side4 ?side5 ?side6 ?side7 ?side8 ?side9 ?side10 ?side11 A48.out).mono ?_); (case side1 => exact s_C (Kd.V_reads' HO_754009.out).2.2); (case side2 => exact (Kd.V_reads' HO_754009.out).2.1); (case side3 => exact s_C (Kd.V_reads' HO_754010.out).2.2); (case side4 => exact (Kd.V_reads' HO_754010.out).2.1); (case side5 => exact s_C (Kd.V_reads' HO_754011.out).2.2); (case side6 => exact (Kd.V_reads' HO_754011.out).2.1); (case side7 => exact HO_754012.out); (case side8 => exact HO_754016.out); (case side9 => exact HO_754017.out); (case side10 => exact HO_754021.out); (case side11 => exact HO_754022.out); rintro e w52 ⟨v810, v813, v816, v819, v825, v828, v834, v837, rfl, ho0, ho1, ho2, ho3, ho4, ho5, ho6, ho7, hb⟩; refine ⟨_, rfl, ?_⟩; have HO811 := s_a (Kd.R_lower (Kd.R_newM (M := fun k_ => (w.heap.size ≤ k_)) (Kd.R_mono (ok' := fun k_ => True) ho0 (fun _ hk_ => trivial)) (below_size (by exact s_b HB.out)) (fun k_ h_ => h_)) (below_size (by exact s_b HB.out))); have HO814 := s_a (Kd.R_lower (Kd.R_newM (M := fun k_ => (w.heap.size ≤ k_)) (Kd.R_mono (ok' := fun k_ => True) ho1 (fun _ hk_ => trivial)) (below_size (by exact s_b HB.out)) (fun k_ h_ => h_)) (below_size (by exact s_b HB.out))); have HO817 := s_a (Kd.R_lower (Kd.R_newM (M := fun k_ => (w.heap.size ≤ k_)) (Kd.R_mono (ok' := fun k_ => True) ho2 (fun _ hk_ => trivial)) (below_size (by exact s_b HB.out)) (fun k_ h_ => h_)) (below_size (by exact s_b HB.out))); have HO820 := s_a (Kd.N_lower (Kd.N_mono (ok' := fun k_ => ((P0_9_ k_ ∨ P0_10_ k_ ∨ P0_11_ k_ ∨ P0_12_ k_ ∨ P0_16_ k_ ∨ P0_17_ k_ ∨ P0_21_ k_ ∨ P0_22_ k_) ∨ w.heap.size ≤ k_) ∧ some k_ ≠ (v810 : Value).ownBlock ∧ some k_ ≠ (v813 : Value).ownBlock ∧ some k_ ≠ (v816 : Value).ownBlock ∧ k_ ≠ gb753 ∧ k_ ≠ gb758 ∧ k_ ≠ gb759) ho3 (fun k_ hk_ => ⟨Or.elim hk_.1 (fun hs_ => Or.elim hs_ (fun hs_ => hs_.1.1.1) (fun hs_ => Or.elim hs_ (fun hs_ => hs_.1.1.1) (fun hs_ => Or.elim hs_ (fun hs_ => hs_.1.1.1) (fun hs_ => Or.elim hs_ (fun hs_ => hs_.1.1.1) (fun hs_ => hs_.1.1.1))))) (fun hn_ => (.inr (Nat.le_trans (below_size (by exact s_b HB.out)) hn_))), hk_.2.1, hk_.2.2.1, hk_.2.2.2, Or.elim hk_.1 (fun hs_ => Or.elim hs_ (fun hs_ => hs_.1.1.2) (fun hs_ => Or.elim hs_ (fun hs_ => hs_.1.1.2) (fun hs_ => Or.elim hs_ (fun hs_ => hs_.1.1.2) (fun hs_ => Or.elim hs_ (fun hs_ => hs_.1.1.2) (fun hs_ => hs_.1.1.2))))) (fun hn_ => (Kd.freshB (s_k BK753.out) k_ hn_)), Or.elim hk_.1 (fun hs_ => Or.elim hs_ (fun hs_ => hs_.1.2) (fun hs_ => Or.elim hs_ (fun hs_ => hs_.1.2) (fun hs_ => Or.elim hs_ (fun hs_ => hs_.1.2) (fun hs_ => Or.elim hs_ (fun hs_ => hs_.1.2) (fun hs_ => hs_.1.2))))) (fun hn_ => (Kd.freshB (s_k BK758.out) k_ hn_)), Or.elim hk_.1 (fun hs_ => Or.elim hs_ (fun hs_ => hs_.2) (fun hs_ => Or.elim hs_ (fun hs_ => hs_.2) (fun hs_ => Or.elim hs_ (fun hs_ => hs_.2) (fun hs_ => Or.elim hs_ (fun hs_ => hs_.2) (fun hs_ => hs_.2))))) (fun hn_ => (Kd.freshB (s_k BK759.out) k_ hn_))⟩)) (below_size (by exact s_b HB.out))); have hm_ : ∀ k_, V_ok ho4 k_ → (fun k_ => ((P0_9_ k_ ∨ P0_10_ k_ ∨ P0_11_ k_ ∨ P0_12_ k_ ∨ P0_16_ k_ ∨ P0_17_ k_ ∨ P0_21_ k_ ∨ P0_22_ k_) ∨ w.heap.size ≤ k_) ∧ some k_ ≠ (v810 : Value).ownBlock ∧ some k_ ≠ (v813 : Value).ownBlock ∧ some k_ ≠ (v816 : Value).ownBlock ∧ some k_ ≠ (v819 : Value).ownBlock ∧ k_ ≠ gb753 ∧ k_ ≠ gb758 ∧ k_ ≠ gb759) k_ := (fun k_ hk_ => ⟨Or.elim hk_.1 (fun hs_ => Or.elim hs_ (fun hs_ => hs_.1.1.1) (fun hs_ => Or.elim hs_ (fun hs_ => hs_.1.1.1) (fun hs_ => Or.elim hs_ (fun hs_ => hs_.1.1.1) (fun hs_ => Or.elim hs_ (fun hs_ => hs_.1.1.1) (fun hs_ => hs_.1.1.1))))) (fun hn_ => (.inr (Nat.le_trans (below_size (by exact s_b HB.out)) hn_))), hk_.2.1, hk_.2.2.1, hk_.2.2.2.1, hk_.2.2.2.2, Or.elim hk_.1 (fun hs_ => Or.elim hs_ (fun hs_ => hs_.1.1.2) (fun hs_ => Or.elim hs_ (fun hs_ => hs_.1.1.2) (fun hs_ => Or.elim hs_ (fun hs_ => hs_.1.1.2) (fun hs_ => Or.elim hs_ (fun hs_ => hs_.1.1.2) (fun hs_ => hs_.1.1.2))))) (fun hn_ => (Kd.freshB (s_k BK753.out) k_ hn_)), Or.elim hk_.1 (fun hs_ => Or.elim hs_ (fun hs_ => hs_.1.2) (fun hs_ => Or.elim hs_ (fun hs_ => hs_.1.2) (fun hs_ => Or.elim hs_ (fun hs_ => hs_.1.2) (fun hs_ => Or.elim hs_ (fun hs_ => hs_.1.2) (fun hs_ => hs_.1.2))))) (fun hn_ => (Kd.freshB (s_k BK758.out) k_ hn_)), Or.elim hk_.1 (fun hs_ => Or.elim hs_ (fun hs_ => hs_.2) (fun hs_ => Or.elim hs_ (fun hs_ => hs_.2) (fun hs_ => Or.elim hs_ (fun hs_ => hs_.2) (fun hs_ => Or.elim hs_ (fun hs_ => hs_.2) (fun hs_ => hs_.2))))) (fun hn_ => (Kd.freshB (s_k BK759.out) k_ hn_))⟩); have HO826 := s_a (Kd.V_lower (Kd.V_mono ho4 hm_) (below_size (by exact s_b HB.out))); have HO829 := s_a (Kd.V_lower (Kd.V_mono ho5 hm_) (below_size (by exact s_b HB.out))); have HO835 := s_a (Kd.V_lower (Kd.V_mono ho6 hm_) (below_size (by exact s_b HB.out))); have HO838 := s_a (Kd.V_lower (Kd.V_mono ho7 hm_) (below_size (by exact s_b HB.out))); clear hm_; replace HO_754009 := s_a (Kd.V_mono (Kd.V_told (Kd.V_told (Kd.V_told (Kd.V_told (Kd.V_old (by exact s_V (HO_754009.out)) hb) (Kd.R_base ho0)) (Kd.R_base ho1)) (Kd.R_base ho2)) (Kd.N_base ho3)) (fun _ h_ => h_.1)); replace HO_754010 := s_a (Kd.V_mono (Kd.V_told (Kd.V_told (Kd.V_told (Kd.V_told (Kd.V_old (by exact s_V (HO_754010.out)) hb) (Kd.R_base ho0)) (Kd.R_base ho1)) (Kd.R_base ho2)) (Kd.N_base ho3)) (fun _ h_ => h_.1)); replace HO_754011 := s_a (Kd.V_mono (Kd.V_told (Kd.V_told (Kd.V_told (Kd.V_told (Kd.V_old (by exact s_V (HO_754011.out)) hb) (Kd.R_base ho0)) (Kd.R_base ho1)) (Kd.R_base ho2)) (Kd.N_base ho3)) (fun _ h_ => h_.1)); replace HO_754012 := s_a (Kd.V_mono (Kd.V_told (Kd.V_told (Kd.V_told (Kd.V_told (Kd.V_old (by exact s_V (HO_754012.out)) hb) (Kd.R_base ho0)) (Kd.R_base ho1)) (Kd.R_base ho2)) (Kd.N_base ho3)) (fun _ h_ => h_.1)); replace HO_754016 := s_a (Kd.V_mono (Kd.V_told (Kd.V_told (Kd.V_told (Kd.V_told (Kd.V_old (by exact s_V (HO_754016.out)) hb) (Kd.R_base ho0)) (Kd.R_base ho1)) (Kd.R_base ho2)) (Kd.N_base ho3)) (fun _ h_ => h_.1)); replace HO_754017 := s_a (Kd.V_mono (Kd.V_told (Kd.V_told (Kd.V_told (Kd.V_told (Kd.V_old (by exact s_V (HO_754017.out)) hb) (Kd.R_base ho0)) (Kd.R_base ho1)) (Kd.R_base ho2)) (Kd.N_base ho3)) (fun _ h_ => h_.1)); replace HO_754021 := s_a (Kd.V_mono (Kd.V_told (Kd.V_told (Kd.V_told (Kd.V_told (Kd.V_old (by exact s_V (HO_754021.out)) hb) (Kd.R_base ho0)) (Kd.R_base ho1)) (Kd.R_base ho2)) (Kd.N_base ho3)) (fun _ h_ => h_.1)); replace HO_754022 := s_a (Kd.V_mono (Kd.V_told (Kd.V_told (Kd.V_told (Kd.V_told (Kd.V_old (by exact s_V (HO_754022.out)) hb) (Kd.R_base ho0)) (Kd.R_base ho1)) (Kd.R_base ho2)) (Kd.N_base ho3)) (fun _ h_ => h_.1)); replace BK753 := s_a (blk_below (s_k BK753.out) hb); replace BK758 := s_a (blk_below (s_k BK758.out) hb); replace BK759 := s_a (blk_below (s_k BK759.out) hb); replace HB := s_a (below_step (by exact s_b HB.out) hb); (try clear hb); (try clear ho0); (try clear ho1); (try clear ho2); (try clear ho3); (try clear ho4); (try clear ho5); (try clear ho6); (try clear ho7); have hnb53 := NB759_753.out; have hnc53 := NB753_759.out; obtain ⟨hcz54_0, hcz54_1, hcz54_2, hcz54_3, hcz54_4, hcz54_5, hcz54_6, hcz54_7, hcz54_8, hcz54_9, hcz54_10, hcz54_11, hcz54_12, hcz54_13, hcz54_14, hcz54_15, hcz54_16, hcz54_17, hcz54_18, hcz54_19, hcz54_20, hcz54_21, hcz54_22⟩ := cells33 BK759.out; have hfz54_0 := blk_frozen BK759.out 0; have hfz54_1 := blk_frozen BK759.out 1; have hfz54_2 := blk_frozen BK759.out 2; have hfz54_3 := blk_frozen BK759.out 3; have hfz54_4 := blk_frozen BK759.out 4; have hfz54_5 := blk_frozen BK759.out 5; have hfz54_6 := blk_frozen BK759.out 6; have hfz54_7 := blk_frozen BK759.out 7; have hfz54_8 := blk_frozen BK759.out 8; have hfz54_9 := blk_frozen BK759.out 9; have hfz54_10 := blk_frozen BK759.out 10; have hfz54_11 := blk_frozen BK759.out 11; have hfz54_12 := blk_frozen BK759.out 12; have hfz54_13 := blk_frozen BK759.out 13; have hfz54_14 := blk_frozen BK759.out 14; have hfz54_15 := blk_frozen BK759.out 15; have hfz54_16 := blk_frozen BK759.out 16; have hfz54_17 := blk_frozen BK759.out 17; have hfz54_18 := blk_frozen BK759.out 18; have hfz54_19 := blk_frozen BK759.out 19; have hfz54_20 := blk_frozen BK759.out 20; have hfz54_21 := blk_frozen BK759.out 21; have hfz54_22 := blk_frozen BK759.out 22; obtain ⟨Ao55, co55, eo55⟩ := Kd.R_slice HO811.out; subst eo55; obtain ⟨Ao56, co56, eo56⟩ := Kd.R_slice HO814.out; subst eo56; obtain ⟨Ao57, co57, eo57⟩ := Kd.R_slice HO817.out; subst eo57; obtain ⟨Ao58, co58, eo58⟩ := Kd.N_slice HO820.out; subst eo58; obtain ⟨Ao59, co59, eo59⟩ := Kd.V_slice HO826.out; subst eo59; obtain ⟨Ao60, co60, eo60⟩ := Kd.V_slice HO829.out; subst eo60; obtain ⟨Ao61, co61, eo61⟩ := Kd.V_slice HO835.out; subst eo61; obtain ⟨Ao62, co62, eo62⟩ := Kd.V_slice HO838.out; subst eo62) | ((with_reducible refine gate_store (t := 33) (p := 9) rfl ?_); refine store_all rfl 33 (.tmp 9) _ rfl gb759 #[.string t800, .string t801, .string t802, .int .i64 t803, .int .i64 t804, .int .i64 t805, .int .i64 t806, .bool t807, .int .i64 t808, .slice Ao55 t809.length co55, .slice Ao56 t812.length co56, .slice Ao57 t815.length co57, .slice Ao58 t818.length co58, .int .i64 t821, .int .i64 t822, .string t823, .slice Ao59 t824.length co59, .slice Ao60 t827.length co60, .int .i64 t830, .int .i64 t831, .string t832, .slice Ao61 t833.length co61, .slice Ao62 t836.length co62] rfl rfl 33 _ (s_k BK759.out) sz33 rfl (by first | rfl | simp [Value.oneCell']) rfl ?_; intro w63 hnb hgr; have n0_ := s_a (s_g HB.out hgr GE759.out); have n1_ := s_a (blk_grown (s_k BK753.out) hgr (some_ne NB753_759.out)); have n2_ := s_a (blk_grown (s_k BK758.out) hgr (some_ne NB758_759.out)); have n3_ := s_a (Kd.R_mono (Kd.R_grown (Kd.R_types HO811.out BK759.out (by decide)) hgr (fun _ hk_ => some_ne hk_.2)) (fun _ hk_ => hk_.1)); have n4_ := s_a (Kd.R_mono (Kd.R_grown (Kd.R_types HO814.out BK759.out (by decide)) hgr (fun _ hk_ => some_ne hk_.2)) (fun _ hk_ => hk_.1)); have n5_ := s_a (Kd.R_mono (Kd.R_grown (Kd.R_types HO817.out BK759.out (by decide)) hgr (fun _ hk_ => some_ne hk_.2)) (fun _ hk_ => hk_.1)); clear HB; clear BK753; clear BK758; clear HO811; clear HO814; clear HO817; have HB := n0_; have BK753 := n1_; have BK758 := n2_; have HO811 := n3_; have HO814 := n4_; have HO817 := n5_; clear n0_ n1_ n2_ n3_ n4_ n5_; replace BK759 := s_a (hnb); replace HO_754009 := s_a (Kd.V_grown (s_V HO_754009.out) hgr (fun _ hk_ => some_ne hk_.1.1.1.1.2)); replace HO_754010 := s_a (Kd.V_grown (s_V HO_754010.out) hgr (fun _ hk_ => some_ne hk_.1.1.1.1.2)); replace HO_754011 := s_a (Kd.V_grown (s_V HO_754011.out) hgr (fun _ hk_ => some_ne hk_.1.1.1.1.2)); replace HO_754012 := s_a (Kd.V_grown (s_V HO_754012.out) hgr (fun _ hk_ => some_ne hk_.1.1.1.1.2)); replace HO_754016 := s_a (Kd.V_grown (s_V HO_754016.out) hgr (fun _ hk_ => some_ne hk_.1.1.1.1.2)); replace HO_754017 := s_a (Kd.V_grown (s_V HO_754017.out) hgr (fun _ hk_ => some_ne hk_.1.1.1.1.2)); replace HO_754021 := s_a (Kd.V_grown (s_V HO_754021.out) hgr (fun _ hk_ => some_ne hk_.1.1.1.1.2)); replace HO_754022 := s_a (Kd.V_grown (s_V HO_754022.out) hgr (fun _ hk_ => some_ne hk_.1.1.1.1.2)); replace HO820 := s_a (Kd.N_grown (s_N HO820.out) hgr (fun _ hk_ => some_ne hk_.2.2.2.2.2.2)); replace HO826 := s_a (Kd.V_grown (s_V HO826.out) hgr (fun _ hk_ => some_ne hk_.2.2.2.2.2.2.2)); replace HO829 := s_a (Kd.V_grown (s_V HO829.out) hgr (fun _ hk_ => some_ne hk_.2.2.2.2.2.2.2)); replace HO835 := s_a (Kd.V_grown (s_V HO835.out) hgr (fun _ hk_ => some_ne hk_.2.2.2.2.2.2.2)); replace HO838 := s_a (Kd.V_grown (s_V HO838.out) hgr (fun _ hk_ => some_ne hk_.2.2.2.2.2.2.2)); clear hnb hgr))
        go_meet
        case rel => exact ⟨_, (t839), (t800), (t801), (t802), (t803), (t804), (t805), (t806), (t807), (t808), (t809), (t812), (t815), (t818), (t821), (t822), (t823), (t824), (t827), (t830), (t831), (t832), (t833), (t836), (.slice Ao55 t809.length co55), (.slice Ao56 t812.length co56), (.slice Ao57 t815.length co57), (.slice Ao58 t818.length co58), (.slice Ao59 t824.length co59), (.slice Ao60 t827.length co60), (.slice Ao61 t833.length co61), (.slice Ao62 t836.length co62), (by first | rfl | (simp; done) | (simp [*]; done)), H', ⟨by have := HK1.out; first | omega | exact Nat.le_refl _⟩, ⟨by exact s_V (Kd.V_mono HO_754009.out (fun _ hk => ⟨hk.1.1.1.1.1.1.1, ⟨hk.1.1.2, ⟨hk.1.2, ⟨hk.2, ⟨hk.1.1.1.1.1.1.2, ⟨hk.1.1.1.1.1.2, hk.1.1.1.1.2⟩⟩⟩⟩⟩⟩))⟩, ⟨by exact s_V (Kd.V_mono HO_754010.out (fun _ hk => ⟨hk.1.1.1.1.1.1.1, ⟨hk.1.1.1.2, ⟨hk.1.2, ⟨hk.2, ⟨hk.1.1.1.1.1.1.2, ⟨hk.1.1.1.1.1.2, hk.1.1.1.1.2⟩⟩⟩⟩⟩⟩))⟩, ⟨by exact s_V (Kd.V_mono HO_754011.out (fun _ hk => ⟨hk.1.1.1.1.1.1.1, ⟨hk.1.1.1.2, ⟨hk.1.1.2, ⟨hk.2, ⟨hk.1.1.1.1.1.1.2, ⟨hk.1.1.1.1.1.2, hk.1.1.1.1.2⟩⟩⟩⟩⟩⟩))⟩, ⟨by exact s_V (Kd.V_mono HO_754012.out (fun _ hk => ⟨hk.1.1.1.1.1.1.1, ⟨hk.1.1.1.2, ⟨hk.1.1.2, ⟨hk.1.2, ⟨hk.1.1.1.1.1.1.2, ⟨hk.1.1.1.1.1.2, hk.1.1.1.1.2⟩⟩⟩⟩⟩⟩))⟩, ⟨by exact s_V (Kd.V_mono HO_754016.out (fun _ hk => ⟨hk.1.1.1.1.1.1.1, ⟨hk.1.1.1.2, ⟨hk.1.1.2, ⟨hk.1.2, ⟨hk.2, ⟨hk.1.1.1.1.1.1.2, ⟨hk.1.1.1.1.1.2, hk.1.1.1.1.2⟩⟩⟩⟩⟩⟩⟩))⟩, ⟨by exact s_V (Kd.V_mono HO_754017.out (fun _ hk => ⟨hk.1.1.1.1.1.1.1, ⟨hk.1.1.1.2, ⟨hk.1.1.2, ⟨hk.1.2, ⟨hk.2, ⟨hk.1.1.1.1.1.1.2, ⟨hk.1.1.1.1.1.2, hk.1.1.1.1.2⟩⟩⟩⟩⟩⟩⟩))⟩, ⟨by exact s_V (Kd.V_mono HO_754021.out (fun _ hk => ⟨hk.1.1.1.1.1.1.1, ⟨hk.1.1.1.2, ⟨hk.1.1.2, ⟨hk.1.2, ⟨hk.2, ⟨hk.1.1.1.1.1.1.2, ⟨hk.1.1.1.1.1.2, hk.1.1.1.1.2⟩⟩⟩⟩⟩⟩⟩))⟩, ⟨by exact s_V (Kd.V_mono HO_754022.out (fun _ hk => ⟨hk.1.1.1.1.1.1.1, ⟨hk.1.1.1.2, ⟨hk.1.1.2, ⟨hk.1.2, ⟨hk.2, ⟨hk.1.1.1.1.1.1.2, ⟨hk.1.1.1.1.1.2, hk.1.1.1.1.2⟩⟩⟩⟩⟩⟩⟩))⟩, ⟨by exact s_R (Kd.R_mono HO811.out (fun _ hk => hk.1))⟩, ⟨by exact s_R (Kd.R_mono HO814.out (fun _ hk => hk.1))⟩, ⟨by exact s_R (Kd.R_mono HO817.out (fun _ hk => hk.1))⟩, ⟨by exact s_N (HO820.out)⟩, ⟨by exact s_V (HO826.out)⟩, ⟨by exact s_V (HO829.out)⟩, ⟨by exact s_V (HO835.out)⟩, ⟨by exact s_V (HO838.out)⟩, ⟨by exact s_k BK753.out⟩, ⟨by exact s_k BK758.out⟩, ⟨by exact s_k BK759.out⟩, ⟨by exact s_b HB.out⟩⟩
      case rest =>
       clear HC12
       try clear c1
       try clear c2
       try clear p2
       try clear c3
       try clear c4
       try clear c4b0
       try clear c4b1
       try clear c5
       try clear c6
       try clear p7
       try clear q7
       try clear hx7
       try clear c8
       try clear c10
       try clear c10b0
       try clear c11
       try clear c11b0
       try clear c12
       try clear c14
       try clear c26
       try clear c27
       try clear c31
       try clear c31b0
       try clear c31b1
       try clear c33
       try clear c34
       try clear c37
       try clear c49
       try clear c50
       try clear c53
       try clear hcz15_0 hcz15_1 hcz15_2 hcz15_3
       try clear hcz28_0 hcz28_1 hcz28_10 hcz28_11 hcz28_12 hcz28_13 hcz28_14 hcz28_15 hcz28_16 hcz28_17 hcz28_18 hcz28_19 hcz28_2 hcz28_20 hcz28_21 hcz28_22 hcz28_3 hcz28_4 hcz28_5 hcz28_6 hcz28_7 hcz28_8 hcz28_9
       try clear hcz30_0 hcz30_1 hcz30_2 hcz30_3
       try clear hcz35_0 hcz35_1 hcz35_2 hcz35_3
       try clear hcz38_0 hcz38_1 hcz38_10 hcz38_11 hcz38_12 hcz38_13 hcz38_14 hcz38_15 hcz38_16 hcz38_17 hcz38_18 hcz38_19 hcz38_2 hcz38_20 hcz38_21 hcz38_22 hcz38_3 hcz38_4 hcz38_5 hcz38_6 hcz38_7 hcz38_8 hcz38_9
       try clear hcz51_0 hcz51_1 hcz51_2 hcz51_3
       try clear hcz54_0 hcz54_1 hcz54_10 hcz54_11 hcz54_12 hcz54_13 hcz54_14 hcz54_15 hcz54_16 hcz54_17 hcz54_18 hcz54_19 hcz54_2 hcz54_20 hcz54_21 hcz54_22 hcz54_3 hcz54_4 hcz54_5 hcz54_6 hcz54_7 hcz54_8 hcz54_9
       try clear hfz15_0 hfz15_1 hfz15_2 hfz15_3
       try clear hfz28_0 hfz28_1 hfz28_10 hfz28_11 hfz28_12 hfz28_13 hfz28_14 hfz28_15 hfz28_16 hfz28_17 hfz28_18 hfz28_19 hfz28_2 hfz28_20 hfz28_21 hfz28_22 hfz28_3 hfz28_4 hfz28_5 hfz28_6 hfz28_7 hfz28_8 hfz28_9
       try clear hfz30_0 hfz30_1 hfz30_2 hfz30_3
       try clear hfz38_0 hfz38_1 hfz38_10 hfz38_11 hfz38_12 hfz38_13 hfz38_14 hfz38_15 hfz38_16 hfz38_17 hfz38_18 hfz38_19 hfz38_2 hfz38_20 hfz38_21 hfz38_22 hfz38_3 hfz38_4 hfz38_5 hfz38_6 hfz38_7 hfz38_8 hfz38_9
       try clear hfz54_0 hfz54_1 hfz54_10 hfz54_11 hfz54_12 hfz54_13 hfz54_14 hfz54_15 hfz54_16 hfz54_17 hfz54_18 hfz54_19 hfz54_2 hfz54_20 hfz54_21 hfz54_22 hfz54_3 hfz54_4 hfz54_5 hfz54_6 hfz54_7 hfz54_8 hfz54_9
       try clear hx757_0
       try clear hx757_1
       try clear hx757_2
       try clear hx757_3
       try clear p2
       try clear p757
       try clear q757
       obtain ⟨kq, x10_11, x760000_11, x760001_11, x760002_11, x760003_11, x760004_11, x760005_11, x760006_11, x760007_11, x760008_11, x760009_11, x760010_11, x760011_11, x760012_11, x760013_11, x760014_11, x760015_11, x760016_11, x760017_11, x760018_11, x760019_11, x760020_11, x760021_11, x760022_11, u760009, u760010, u760011, u760012, u760016, u760017, u760021, u760022, rfl, HA, HJ11, HO_754009, HO_754010, HO_754011, HO_754012, HO_754016, HO_754017, HO_754021, HO_754022, HO_760009, HO_760010, HO_760011, HO_760012, HO_760016, HO_760017, HO_760021, HO_760022, BK753, BK758, BK759, HB⟩ := hcut
       cases kq with
       | zero => exact absurd HA.out (by simp [orchestratorlaw21_DeletionOnce.j1])
       | succ kj11 =>
        have H := HA.out
        clear HA
        simp only [orchestratorlaw21_DeletionOnce.j1] at H
        by_cases c64 : x10_11 = 0
        ·rw [if_pos c64] at H
         have c64b0 : (x10_11 == 0) = true := beq_iff_eq.mpr c64
         have c64b1 : (x10_11 != 0) = false := bne_eq_false_iff_eq.mpr c64
         clear c64
         by_cases c65 : x754007_1 = true
         ·subst c65
          (try rw [if_pos rfl] at H)
          by_cases c66 : x760007_11 = true
          ·subst c66
           (try rw [if_pos rfl] at H)
           by_cases c67 : x760008_11 > x754008_1
           ·rw [if_pos c67] at H
            have c67b0 : decide (x754008_1 < x760008_11) = true := decide_eq_true c67
            clear c67
            exact absurd H (by simp)
           ·rw [if_neg c67] at H
            have c67b0 : decide (x754008_1 < x760008_11) = false := decide_eq_false c67
            clear c67
            by_cases c68 : ((rd_T45 l1 x7_1).f0).toList = ([] : List UInt8)
            ·rw [if_pos c68] at H
             have c68b0 : (((rd_T45 l1 x7_1).f0).toList == ([] : List UInt8)) = true := beq_iff_eq.mpr c68
             have c68b1 : (((rd_T45 l1 x7_1).f0).toList != ([] : List UInt8)) = false := bne_eq_false_iff_eq.mpr c68
             clear c68
             have H' := s_a H
             clear H
             have hnb69 := NB753_758.out
             have hnc69 := NB758_753.out
             have hnb70 := NB753_759.out
             have hnc70 := NB759_753.out
             obtain ⟨hcz71_0, hcz71_1, hcz71_2, hcz71_3, hcz71_4, hcz71_5, hcz71_6, hcz71_7, hcz71_8, hcz71_9, hcz71_10, hcz71_11, hcz71_12, hcz71_13, hcz71_14, hcz71_15, hcz71_16, hcz71_17, hcz71_18, hcz71_19, hcz71_20, hcz71_21, hcz71_22⟩ := cells33 BK753.out
             have hfz71_0 := blk_frozen BK753.out 0
             have hfz71_1 := blk_frozen BK753.out 1
             have hfz71_2 := blk_frozen BK753.out 2
             have hfz71_3 := blk_frozen BK753.out 3
             have hfz71_4 := blk_frozen BK753.out 4
             have hfz71_5 := blk_frozen BK753.out 5
             have hfz71_6 := blk_frozen BK753.out 6
             have hfz71_7 := blk_frozen BK753.out 7
             have hfz71_8 := blk_frozen BK753.out 8
             have hfz71_9 := blk_frozen BK753.out 9
             have hfz71_10 := blk_frozen BK753.out 10
             have hfz71_11 := blk_frozen BK753.out 11
             have hfz71_12 := blk_frozen BK753.out 12
             have hfz71_13 := blk_frozen BK753.out 13
             have hfz71_14 := blk_frozen BK753.out 14
             have hfz71_15 := blk_frozen BK753.out 15
             have hfz71_16 := blk_frozen BK753.out 16
             have hfz71_17 := blk_frozen BK753.out 17
             have hfz71_18 := blk_frozen BK753.out 18
             have hfz71_19 := blk_frozen BK753.out 19
             have hfz71_20 := blk_frozen BK753.out 20
             have hfz71_21 := blk_frozen BK753.out 21
             have hfz71_22 := blk_frozen BK753.out 22
             have hnb72 := NB759_758.out
             have hnc72 := NB758_759.out
             obtain ⟨hcz73_0, hcz73_1, hcz73_2, hcz73_3, hcz73_4, hcz73_5, hcz73_6, hcz73_7, hcz73_8, hcz73_9, hcz73_10, hcz73_11, hcz73_12, hcz73_13, hcz73_14, hcz73_15, hcz73_16, hcz73_17, hcz73_18, hcz73_19, hcz73_20, hcz73_21, hcz73_22⟩ := cells33 BK759.out
             obtain ⟨hcz74_0, hcz74_1, hcz74_2, hcz74_3⟩ := cells45 BK758.out
             obtain ⟨Ao75, co75, eo75⟩ := Kd.R_slice HO_760009.out
             subst eo75
             obtain ⟨Ao76, co76, eo76⟩ := Kd.R_slice HO_760010.out
             subst eo76
             obtain ⟨Ao77, co77, eo77⟩ := Kd.R_slice HO_760011.out
             subst eo77
             obtain ⟨Ao78, co78, eo78⟩ := Kd.N_slice HO_760012.out
             subst eo78
             obtain ⟨Ao79, co79, eo79⟩ := Kd.V_slice HO_760016.out
             subst eo79
             obtain ⟨Ao80, co80, eo80⟩ := Kd.V_slice HO_760017.out
             subst eo80
             obtain ⟨Ao81, co81, eo81⟩ := Kd.V_slice HO_760021.out
             subst eo81
             obtain ⟨Ao82, co82, eo82⟩ := Kd.V_slice HO_760022.out
             subst eo82
             go_wp2_with (first | ((with_reducible refine gate_dst (N := 78) rfl ?_); (try (refine gate_guard (by rfl) ?_; dsimp only)); refine wpList_load_row rfl 33 (.tmp 9) rfl gb759 rfl 33 _ (0, 0) _ (s_k BK759.out) Try.underlying33 rfl sz33 ?_) | ((with_reducible refine gate_store (t := 33) (p := 3) rfl ?_); refine store_all rfl 33 (.tmp 3) _ rfl gb753 #[.string x760000_11, .string x760001_11, .string x760002_11, .int .i64 x760003_11, .int .i64 x760004_11, .int .i64 x760005_11, .int .i64 x760006_11, .bool true, .int .i64 x760008_11, .slice Ao75 x760009_11.length co75, .slice Ao76 x760010_11.length co76, .slice Ao77 x760011_11.length co77, .slice Ao78 x760012_11.length co78, .int .i64 x760013_11, .int .i64 x760014_11, .string x760015_11, .slice Ao79 x760016_11.length co79, .slice Ao80 x760017_11.length co80, .int .i64 x760018_11, .int .i64 x760019_11, .string x760020_11, .slice Ao81 x760021_11.length co81, .slice Ao82 x760022_11.length co82] rfl rfl 33 _ (s_k BK753.out) sz33 rfl (by first | rfl | simp [Value.oneCell']) rfl ?_; intro w83 hnb hgr; have n0_ := s_a (s_g HB.out hgr GE753.out); have n1_ := s_a (Kd.R_mono (Kd.R_grown (Kd.R_types HO_760009.out BK753.out (by decide)) hgr (fun _ hk_ => some_ne hk_.2)) (fun _ hk_ => hk_.1)); have n2_ := s_a (Kd.R_mono (Kd.R_grown (Kd.R_types HO_760010.out BK753.out (by decide)) hgr (fun _ hk_ => some_ne hk_.2)) (fun _ hk_ => hk_.1)); have n3_ := s_a (Kd.R_mono (Kd.R_grown (Kd.R_types HO_760011.out BK753.out (by decide)) hgr (fun _ hk_ => some_ne hk_.2)) (fun _ hk_ => hk_.1)); clear HB; clear HO_760009; clear HO_760010; clear HO_760011; have HB := n0_; have HO_760009 := n1_; have HO_760010 := n2_; have HO_760011 := n3_; clear n0_ n1_ n2_ n3_; replace BK753 := s_a (hnb); replace HO_760012 := s_a (Kd.N_grown (s_N HO_760012.out) hgr (fun _ hk_ => some_ne hk_.2.2.2.2.1)); replace HO_760016 := s_a (Kd.V_grown (s_V HO_760016.out) hgr (fun _ hk_ => some_ne hk_.2.2.2.2.2.1)); replace HO_760017 := s_a (Kd.V_grown (s_V HO_760017.out) hgr (fun _ hk_ => some_ne hk_.2.2.2.2.2.1)); replace HO_760021 := s_a (Kd.V_grown (s_V HO_760021.out) hgr (fun _ hk_ => some_ne hk_.2.2.2.2.2.1)); replace HO_760022 := s_a (Kd.V_grown (s_V HO_760022.out) hgr (fun _ hk_ => some_ne hk_.2.2.2.2.2.1)); clear hnb hgr))
             go_roundg kj11
             case measure => have := HK1.out; have := HJ11.out; omega
             case rel => exact ⟨(wrap64 (x7_1 + 1)), (x760000_11), (x760001_11), (x760002_11), (x760003_11), (x760004_11), (x760005_11), (x760006_11), (true), (x760008_11), (x760009_11), (x760010_11), (x760011_11), (x760012_11), (x760013_11), (x760014_11), (x760015_11), (x760016_11), (x760017_11), (x760018_11), (x760019_11), (x760020_11), (x760021_11), (x760022_11), (.slice Ao75 x760009_11.length co75), (.slice Ao76 x760010_11.length co76), (.slice Ao77 x760011_11.length co77), (.slice Ao78 x760012_11.length co78), (.slice Ao79 x760016_11.length co79), (.slice Ao80 x760017_11.length co80), (.slice Ao81 x760021_11.length co81), (.slice Ao82 x760022_11.length co82), (by first | rfl | (simp; done) | (simp [*]; done)), H', ⟨by have := HK1.out; have := HJ11.out; omega⟩, ⟨Kd.V_mono (Kd.R_V (by exact s_R ((Kd.R_types HO_760009.out BK753.out (by decide))))) (fun k_ hk => by first | exact ⟨(.inr (hk.1)), hk.2⟩ | exact (.inr (hk)))⟩, ⟨Kd.V_mono (Kd.R_V (by exact s_R ((Kd.R_types HO_760010.out BK753.out (by decide))))) (fun k_ hk => by first | exact ⟨(.inr (hk.1)), hk.2⟩ | exact (.inr (hk)))⟩, ⟨Kd.V_mono (Kd.R_V (by exact s_R ((Kd.R_types HO_760011.out BK753.out (by decide))))) (fun k_ hk => by first | exact ⟨(.inr (hk.1)), hk.2⟩ | exact (.inr (hk)))⟩, ⟨Kd.N_V (by exact s_N (Kd.N_mono HO_760012.out (fun _ hk => ⟨hk.1, hk.2.2.2.2.1⟩)))⟩, ⟨by exact s_V (Kd.V_mono HO_760016.out (fun _ hk => ⟨hk.1, hk.2.2.2.2.2.1⟩))⟩, ⟨by exact s_V (Kd.V_mono HO_760017.out (fun _ hk => ⟨hk.1, hk.2.2.2.2.2.1⟩))⟩, ⟨by exact s_V (Kd.V_mono HO_760021.out (fun _ hk => ⟨hk.1, hk.2.2.2.2.2.1⟩))⟩, ⟨by exact s_V (Kd.V_mono HO_760022.out (fun _ hk => ⟨hk.1, hk.2.2.2.2.2.1⟩))⟩, ⟨by exact s_k BK753.out⟩, ⟨by exact s_b HB.out⟩⟩
            ·rw [if_neg c68] at H
             have c68b0 : (((rd_T45 l1 x7_1).f0).toList == ([] : List UInt8)) = false := beq_eq_false_iff_ne.mpr c68
             have c68b1 : (((rd_T45 l1 x7_1).f0).toList != ([] : List UInt8)) = true := bne_iff_ne.mpr c68
             have H' := s_a H
             clear H
             have hnb84 := NB753_758.out
             have hnc84 := NB758_753.out
             have hnb85 := NB753_759.out
             have hnc85 := NB759_753.out
             obtain ⟨hcz86_0, hcz86_1, hcz86_2, hcz86_3, hcz86_4, hcz86_5, hcz86_6, hcz86_7, hcz86_8, hcz86_9, hcz86_10, hcz86_11, hcz86_12, hcz86_13, hcz86_14, hcz86_15, hcz86_16, hcz86_17, hcz86_18, hcz86_19, hcz86_20, hcz86_21, hcz86_22⟩ := cells33 BK753.out
             have hfz86_0 := blk_frozen BK753.out 0
             have hfz86_1 := blk_frozen BK753.out 1
             have hfz86_2 := blk_frozen BK753.out 2
             have hfz86_3 := blk_frozen BK753.out 3
             have hfz86_4 := blk_frozen BK753.out 4
             have hfz86_5 := blk_frozen BK753.out 5
             have hfz86_6 := blk_frozen BK753.out 6
             have hfz86_7 := blk_frozen BK753.out 7
             have hfz86_8 := blk_frozen BK753.out 8
             have hfz86_9 := blk_frozen BK753.out 9
             have hfz86_10 := blk_frozen BK753.out 10
             have hfz86_11 := blk_frozen BK753.out 11
             have hfz86_12 := blk_frozen BK753.out 12
             have hfz86_13 := blk_frozen BK753.out 13
             have hfz86_14 := blk_frozen BK753.out 14
             have hfz86_15 := blk_frozen BK753.out 15
             have hfz86_16 := blk_frozen BK753.out 16
             have hfz86_17 := blk_frozen BK753.out 17
             have hfz86_18 := blk_frozen BK753.out 18
             have hfz86_19 := blk_frozen BK753.out 19
             have hfz86_20 := blk_frozen BK753.out 20
             have hfz86_21 := blk_frozen BK753.out 21
             have hfz86_22 := blk_frozen BK753.out 22
             have hnb87 := NB759_758.out
             have hnc87 := NB758_759.out
             obtain ⟨hcz88_0, hcz88_1, hcz88_2, hcz88_3, hcz88_4, hcz88_5, hcz88_6, hcz88_7, hcz88_8, hcz88_9, hcz88_10, hcz88_11, hcz88_12, hcz88_13, hcz88_14, hcz88_15, hcz88_16, hcz88_17, hcz88_18, hcz88_19, hcz88_20, hcz88_21, hcz88_22⟩ := cells33 BK759.out
             obtain ⟨hcz89_0, hcz89_1, hcz89_2, hcz89_3⟩ := cells45 BK758.out
             obtain ⟨Ao90, co90, eo90⟩ := Kd.R_slice HO_760009.out
             subst eo90
             obtain ⟨Ao91, co91, eo91⟩ := Kd.R_slice HO_760010.out
             subst eo91
             obtain ⟨Ao92, co92, eo92⟩ := Kd.R_slice HO_760011.out
             subst eo92
             obtain ⟨Ao93, co93, eo93⟩ := Kd.N_slice HO_760012.out
             subst eo93
             obtain ⟨Ao94, co94, eo94⟩ := Kd.V_slice HO_760016.out
             subst eo94
             obtain ⟨Ao95, co95, eo95⟩ := Kd.V_slice HO_760017.out
             subst eo95
             obtain ⟨Ao96, co96, eo96⟩ := Kd.V_slice HO_760021.out
             subst eo96
             obtain ⟨Ao97, co97, eo97⟩ := Kd.V_slice HO_760022.out
             subst eo97
             go_wp2_with (first | ((with_reducible refine gate_dst (N := 78) rfl ?_); (try (refine gate_guard (by rfl) ?_; dsimp only)); refine wpList_load_row rfl 33 (.tmp 9) rfl gb759 rfl 33 _ (0, 0) _ (s_k BK759.out) Try.underlying33 rfl sz33 ?_) | ((with_reducible refine gate_store (t := 33) (p := 3) rfl ?_); refine store_all rfl 33 (.tmp 3) _ rfl gb753 #[.string x760000_11, .string x760001_11, .string x760002_11, .int .i64 x760003_11, .int .i64 x760004_11, .int .i64 x760005_11, .int .i64 x760006_11, .bool true, .int .i64 x760008_11, .slice Ao90 x760009_11.length co90, .slice Ao91 x760010_11.length co91, .slice Ao92 x760011_11.length co92, .slice Ao93 x760012_11.length co93, .int .i64 x760013_11, .int .i64 x760014_11, .string x760015_11, .slice Ao94 x760016_11.length co94, .slice Ao95 x760017_11.length co95, .int .i64 x760018_11, .int .i64 x760019_11, .string x760020_11, .slice Ao96 x760021_11.length co96, .slice Ao97 x760022_11.length co97] rfl rfl 33 _ (s_k BK753.out) sz33 rfl (by first | rfl | simp [Value.oneCell']) rfl ?_; intro w98 hnb hgr; have n0_ := s_a (s_g HB.out hgr GE753.out); have n1_ := s_a (Kd.R_mono (Kd.R_grown (Kd.R_types HO_760009.out BK753.out (by decide)) hgr (fun _ hk_ => some_ne hk_.2)) (fun _ hk_ => hk_.1)); have n2_ := s_a (Kd.R_mono (Kd.R_grown (Kd.R_types HO_760010.out BK753.out (by decide)) hgr (fun _ hk_ => some_ne hk_.2)) (fun _ hk_ => hk_.1)); have n3_ := s_a (Kd.R_mono (Kd.R_grown (Kd.R_types HO_760011.out BK753.out (by decide)) hgr (fun _ hk_ => some_ne hk_.2)) (fun _ hk_ => hk_.1)); clear HB; clear HO_760009; clear HO_760010; clear HO_760011; have HB := n0_; have HO_760009 := n1_; have HO_760010 := n2_; have HO_760011 := n3_; clear n0_ n1_ n2_ n3_; replace BK753 := s_a (hnb); replace HO_760012 := s_a (Kd.N_grown (s_N HO_760012.out) hgr (fun _ hk_ => some_ne hk_.2.2.2.2.1)); replace HO_760016 := s_a (Kd.V_grown (s_V HO_760016.out) hgr (fun _ hk_ => some_ne hk_.2.2.2.2.2.1)); replace HO_760017 := s_a (Kd.V_grown (s_V HO_760017.out) hgr (fun _ hk_ => some_ne hk_.2.2.2.2.2.1)); replace HO_760021 := s_a (Kd.V_grown (s_V HO_760021.out) hgr (fun _ hk_ => some_ne hk_.2.2.2.2.2.1)); replace HO_760022 := s_a (Kd.V_grown (s_V HO_760022.out) hgr (fun _ hk_ => some_ne hk_.2.2.2.2.2.1)); clear hnb hgr))
             go_roundg kj11
             case measure => have := HK1.out; have := HJ11.out; omega
             case rel => exact ⟨(wrap64 (x7_1 + 1)), (x760000_11), (x760001_11), (x760002_11), (x760003_11), (x760004_11), (x760005_11), (x760006_11), (true), (x760008_11), (x760009_11), (x760010_11), (x760011_11), (x760012_11), (x760013_11), (x760014_11), (x760015_11), (x760016_11), (x760017_11), (x760018_11), (x760019_11), (x760020_11), (x760021_11), (x760022_11), (.slice Ao90 x760009_11.length co90), (.slice Ao91 x760010_11.length co91), (.slice Ao92 x760011_11.length co92), (.slice Ao93 x760012_11.length co93), (.slice Ao94 x760016_11.length co94), (.slice Ao95 x760017_11.length co95), (.slice Ao96 x760021_11.length co96), (.slice Ao97 x760022_11.length co97), (by first | rfl | (simp; done) | (simp [*]; done)), H', ⟨by have := HK1.out; have := HJ11.out; omega⟩, ⟨Kd.V_mono (Kd.R_V (by exact s_R ((Kd.R_types HO_760009.out BK753.out (by decide))))) (fun k_ hk => by first | exact ⟨(.inr (hk.1)), hk.2⟩ | exact (.inr (hk)))⟩, ⟨Kd.V_mono (Kd.R_V (by exact s_R ((Kd.R_types HO_760010.out BK753.out (by decide))))) (fun k_ hk => by first | exact ⟨(.inr (hk.1)), hk.2⟩ | exact (.inr (hk)))⟩, ⟨Kd.V_mono (Kd.R_V (by exact s_R ((Kd.R_types HO_760011.out BK753.out (by decide))))) (fun k_ hk => by first | exact ⟨(.inr (hk.1)), hk.2⟩ | exact (.inr (hk)))⟩, ⟨Kd.N_V (by exact s_N (Kd.N_mono HO_760012.out (fun _ hk => ⟨hk.1, hk.2.2.2.2.1⟩)))⟩, ⟨by exact s_V (Kd.V_mono HO_760016.out (fun _ hk => ⟨hk.1, hk.2.2.2.2.2.1⟩))⟩, ⟨by exact s_V (Kd.V_mono HO_760017.out (fun _ hk => ⟨hk.1, hk.2.2.2.2.2.1⟩))⟩, ⟨by exact s_V (Kd.V_mono HO_760021.out (fun _ hk => ⟨hk.1, hk.2.2.2.2.2.1⟩))⟩, ⟨by exact s_V (Kd.V_mono HO_760022.out (fun _ hk => ⟨hk.1, hk.2.2.2.2.2.1⟩))⟩, ⟨by exact s_k BK753.out⟩, ⟨by exact s_b HB.out⟩⟩
          ·replace c66 := Bool.eq_false_iff.mpr c66
           subst c66
           (try rw [if_neg (show ¬ (false = true) by decide)] at H)
           exact absurd H (by simp)
         ·replace c65 := Bool.eq_false_iff.mpr c65
          subst c65
          (try rw [if_neg (show ¬ (false = true) by decide)] at H)
          by_cases c99 : ((rd_T45 l1 x7_1).f0).toList = ([] : List UInt8)
          ·rw [if_pos c99] at H
           have c99b0 : (((rd_T45 l1 x7_1).f0).toList == ([] : List UInt8)) = true := beq_iff_eq.mpr c99
           have c99b1 : (((rd_T45 l1 x7_1).f0).toList != ([] : List UInt8)) = false := bne_eq_false_iff_eq.mpr c99
           clear c99
           by_cases c100 : x760007_11 = true
           ·subst c100
            (try rw [if_pos rfl] at H)
            have H' := s_a H
            clear H
            have hnb101 := NB753_758.out
            have hnc101 := NB758_753.out
            have hnb102 := NB753_759.out
            have hnc102 := NB759_753.out
            obtain ⟨hcz103_0, hcz103_1, hcz103_2, hcz103_3, hcz103_4, hcz103_5, hcz103_6, hcz103_7, hcz103_8, hcz103_9, hcz103_10, hcz103_11, hcz103_12, hcz103_13, hcz103_14, hcz103_15, hcz103_16, hcz103_17, hcz103_18, hcz103_19, hcz103_20, hcz103_21, hcz103_22⟩ := cells33 BK753.out
            have hfz103_0 := blk_frozen BK753.out 0
            have hfz103_1 := blk_frozen BK753.out 1
            have hfz103_2 := blk_frozen BK753.out 2
            have hfz103_3 := blk_frozen BK753.out 3
            have hfz103_4 := blk_frozen BK753.out 4
            have hfz103_5 := blk_frozen BK753.out 5
            have hfz103_6 := blk_frozen BK753.out 6
            have hfz103_7 := blk_frozen BK753.out 7
            have hfz103_8 := blk_frozen BK753.out 8
            have hfz103_9 := blk_frozen BK753.out 9
            have hfz103_10 := blk_frozen BK753.out 10
            have hfz103_11 := blk_frozen BK753.out 11
            have hfz103_12 := blk_frozen BK753.out 12
            have hfz103_13 := blk_frozen BK753.out 13
            have hfz103_14 := blk_frozen BK753.out 14
            have hfz103_15 := blk_frozen BK753.out 15
            have hfz103_16 := blk_frozen BK753.out 16
            have hfz103_17 := blk_frozen BK753.out 17
            have hfz103_18 := blk_frozen BK753.out 18
            have hfz103_19 := blk_frozen BK753.out 19
            have hfz103_20 := blk_frozen BK753.out 20
            have hfz103_21 := blk_frozen BK753.out 21
            have hfz103_22 := blk_frozen BK753.out 22
            have hnb104 := NB758_759.out
            have hnc104 := NB759_758.out
            obtain ⟨hcz105_0, hcz105_1, hcz105_2, hcz105_3⟩ := cells45 BK758.out
            obtain ⟨hcz106_0, hcz106_1, hcz106_2, hcz106_3, hcz106_4, hcz106_5, hcz106_6, hcz106_7, hcz106_8, hcz106_9, hcz106_10, hcz106_11, hcz106_12, hcz106_13, hcz106_14, hcz106_15, hcz106_16, hcz106_17, hcz106_18, hcz106_19, hcz106_20, hcz106_21, hcz106_22⟩ := cells33 BK759.out
            obtain ⟨Ao107, co107, eo107⟩ := Kd.R_slice HO_760009.out
            subst eo107
            obtain ⟨Ao108, co108, eo108⟩ := Kd.R_slice HO_760010.out
            subst eo108
            obtain ⟨Ao109, co109, eo109⟩ := Kd.R_slice HO_760011.out
            subst eo109
            obtain ⟨Ao110, co110, eo110⟩ := Kd.N_slice HO_760012.out
            subst eo110
            obtain ⟨Ao111, co111, eo111⟩ := Kd.V_slice HO_760016.out
            subst eo111
            obtain ⟨Ao112, co112, eo112⟩ := Kd.V_slice HO_760017.out
            subst eo112
            obtain ⟨Ao113, co113, eo113⟩ := Kd.V_slice HO_760021.out
            subst eo113
            obtain ⟨Ao114, co114, eo114⟩ := Kd.V_slice HO_760022.out
            subst eo114
            go_wp2_with (first | ((with_reducible refine gate_dst (N := 78) rfl ?_); (try (refine gate_guard (by rfl) ?_; dsimp only)); refine wpList_load_row rfl 33 (.tmp 9) rfl gb759 rfl 33 _ (0, 0) _ (s_k BK759.out) Try.underlying33 rfl sz33 ?_) | ((with_reducible refine gate_store (t := 33) (p := 3) rfl ?_); refine store_all rfl 33 (.tmp 3) _ rfl gb753 #[.string x760000_11, .string x760001_11, .string x760002_11, .int .i64 x760003_11, .int .i64 x760004_11, .int .i64 x760005_11, .int .i64 x760006_11, .bool true, .int .i64 x760008_11, .slice Ao107 x760009_11.length co107, .slice Ao108 x760010_11.length co108, .slice Ao109 x760011_11.length co109, .slice Ao110 x760012_11.length co110, .int .i64 x760013_11, .int .i64 x760014_11, .string x760015_11, .slice Ao111 x760016_11.length co111, .slice Ao112 x760017_11.length co112, .int .i64 x760018_11, .int .i64 x760019_11, .string x760020_11, .slice Ao113 x760021_11.length co113, .slice Ao114 x760022_11.length co114] rfl rfl 33 _ (s_k BK753.out) sz33 rfl (by first | rfl | simp [Value.oneCell']) rfl ?_; intro w115 hnb hgr; have n0_ := s_a (s_g HB.out hgr GE753.out); have n1_ := s_a (Kd.R_mono (Kd.R_grown (Kd.R_types HO_760009.out BK753.out (by decide)) hgr (fun _ hk_ => some_ne hk_.2)) (fun _ hk_ => hk_.1)); have n2_ := s_a (Kd.R_mono (Kd.R_grown (Kd.R_types HO_760010.out BK753.out (by decide)) hgr (fun _ hk_ => some_ne hk_.2)) (fun _ hk_ => hk_.1)); have n3_ := s_a (Kd.R_mono (Kd.R_grown (Kd.R_types HO_760011.out BK753.out (by decide)) hgr (fun _ hk_ => some_ne hk_.2)) (fun _ hk_ => hk_.1)); clear HB; clear HO_760009; clear HO_760010; clear HO_760011; have HB := n0_; have HO_760009 := n1_; have HO_760010 := n2_; have HO_760011 := n3_; clear n0_ n1_ n2_ n3_; replace BK753 := s_a (hnb); replace HO_760012 := s_a (Kd.N_grown (s_N HO_760012.out) hgr (fun _ hk_ => some_ne hk_.2.2.2.2.1)); replace HO_760016 := s_a (Kd.V_grown (s_V HO_760016.out) hgr (fun _ hk_ => some_ne hk_.2.2.2.2.2.1)); replace HO_760017 := s_a (Kd.V_grown (s_V HO_760017.out) hgr (fun _ hk_ => some_ne hk_.2.2.2.2.2.1)); replace HO_760021 := s_a (Kd.V_grown (s_V HO_760021.out) hgr (fun _ hk_ => some_ne hk_.2.2.2.2.2.1)); replace HO_760022 := s_a (Kd.V_grown (s_V HO_760022.out) hgr (fun _ hk_ => some_ne hk_.2.2.2.2.2.1)); clear hnb hgr))
            go_roundg kj11
            case measure => have := HK1.out; have := HJ11.out; omega
            case rel => exact ⟨(wrap64 (x7_1 + 1)), (x760000_11), (x760001_11), (x760002_11), (x760003_11), (x760004_11), (x760005_11), (x760006_11), (true), (x760008_11), (x760009_11), (x760010_11), (x760011_11), (x760012_11), (x760013_11), (x760014_11), (x760015_11), (x760016_11), (x760017_11), (x760018_11), (x760019_11), (x760020_11), (x760021_11), (x760022_11), (.slice Ao107 x760009_11.length co107), (.slice Ao108 x760010_11.length co108), (.slice Ao109 x760011_11.length co109), (.slice Ao110 x760012_11.length co110), (.slice Ao111 x760016_11.length co111), (.slice Ao112 x760017_11.length co112), (.slice Ao113 x760021_11.length co113), (.slice Ao114 x760022_11.length co114), (by first | rfl | (simp; done) | (simp [*]; done)), H', ⟨by have := HK1.out; have := HJ11.out; omega⟩, ⟨Kd.V_mono (Kd.R_V (by exact s_R ((Kd.R_types HO_760009.out BK753.out (by decide))))) (fun k_ hk => by first | exact ⟨(.inr (hk.1)), hk.2⟩ | exact (.inr (hk)))⟩, ⟨Kd.V_mono (Kd.R_V (by exact s_R ((Kd.R_types HO_760010.out BK753.out (by decide))))) (fun k_ hk => by first | exact ⟨(.inr (hk.1)), hk.2⟩ | exact (.inr (hk)))⟩, ⟨Kd.V_mono (Kd.R_V (by exact s_R ((Kd.R_types HO_760011.out BK753.out (by decide))))) (fun k_ hk => by first | exact ⟨(.inr (hk.1)), hk.2⟩ | exact (.inr (hk)))⟩, ⟨Kd.N_V (by exact s_N (Kd.N_mono HO_760012.out (fun _ hk => ⟨hk.1, hk.2.2.2.2.1⟩)))⟩, ⟨by exact s_V (Kd.V_mono HO_760016.out (fun _ hk => ⟨hk.1, hk.2.2.2.2.2.1⟩))⟩, ⟨by exact s_V (Kd.V_mono HO_760017.out (fun _ hk => ⟨hk.1, hk.2.2.2.2.2.1⟩))⟩, ⟨by exact s_V (Kd.V_mono HO_760021.out (fun _ hk => ⟨hk.1, hk.2.2.2.2.2.1⟩))⟩, ⟨by exact s_V (Kd.V_mono HO_760022.out (fun _ hk => ⟨hk.1, hk.2.2.2.2.2.1⟩))⟩, ⟨by exact s_k BK753.out⟩, ⟨by exact s_b HB.out⟩⟩
           ·replace c100 := Bool.eq_false_iff.mpr c100
            subst c100
            (try rw [if_neg (show ¬ (false = true) by decide)] at H)
            exact absurd H (by simp)
          ·rw [if_neg c99] at H
           have c99b0 : (((rd_T45 l1 x7_1).f0).toList == ([] : List UInt8)) = false := beq_eq_false_iff_ne.mpr c99
           have c99b1 : (((rd_T45 l1 x7_1).f0).toList != ([] : List UInt8)) = true := bne_iff_ne.mpr c99
           have H' := s_a H
           clear H
           have hnb116 := NB753_758.out
           have hnc116 := NB758_753.out
           have hnb117 := NB753_759.out
           have hnc117 := NB759_753.out
           obtain ⟨hcz118_0, hcz118_1, hcz118_2, hcz118_3, hcz118_4, hcz118_5, hcz118_6, hcz118_7, hcz118_8, hcz118_9, hcz118_10, hcz118_11, hcz118_12, hcz118_13, hcz118_14, hcz118_15, hcz118_16, hcz118_17, hcz118_18, hcz118_19, hcz118_20, hcz118_21, hcz118_22⟩ := cells33 BK753.out
           have hfz118_0 := blk_frozen BK753.out 0
           have hfz118_1 := blk_frozen BK753.out 1
           have hfz118_2 := blk_frozen BK753.out 2
           have hfz118_3 := blk_frozen BK753.out 3
           have hfz118_4 := blk_frozen BK753.out 4
           have hfz118_5 := blk_frozen BK753.out 5
           have hfz118_6 := blk_frozen BK753.out 6
           have hfz118_7 := blk_frozen BK753.out 7
           have hfz118_8 := blk_frozen BK753.out 8
           have hfz118_9 := blk_frozen BK753.out 9
           have hfz118_10 := blk_frozen BK753.out 10
           have hfz118_11 := blk_frozen BK753.out 11
           have hfz118_12 := blk_frozen BK753.out 12
           have hfz118_13 := blk_frozen BK753.out 13
           have hfz118_14 := blk_frozen BK753.out 14
           have hfz118_15 := blk_frozen BK753.out 15
           have hfz118_16 := blk_frozen BK753.out 16
           have hfz118_17 := blk_frozen BK753.out 17
           have hfz118_18 := blk_frozen BK753.out 18
           have hfz118_19 := blk_frozen BK753.out 19
           have hfz118_20 := blk_frozen BK753.out 20
           have hfz118_21 := blk_frozen BK753.out 21
           have hfz118_22 := blk_frozen BK753.out 22
           have hnb119 := NB758_759.out
           have hnc119 := NB759_758.out
           obtain ⟨hcz120_0, hcz120_1, hcz120_2, hcz120_3⟩ := cells45 BK758.out
           obtain ⟨Ao121, co121, eo121⟩ := Kd.R_slice HO_760009.out
           subst eo121
           obtain ⟨Ao122, co122, eo122⟩ := Kd.R_slice HO_760010.out
           subst eo122
           obtain ⟨Ao123, co123, eo123⟩ := Kd.R_slice HO_760011.out
           subst eo123
           obtain ⟨Ao124, co124, eo124⟩ := Kd.N_slice HO_760012.out
           subst eo124
           obtain ⟨Ao125, co125, eo125⟩ := Kd.V_slice HO_760016.out
           subst eo125
           obtain ⟨Ao126, co126, eo126⟩ := Kd.V_slice HO_760017.out
           subst eo126
           obtain ⟨Ao127, co127, eo127⟩ := Kd.V_slice HO_760021.out
           subst eo127
           obtain ⟨Ao128, co128, eo128⟩ := Kd.V_slice HO_760022.out
           subst eo128
           go_wp2_with (first | ((with_reducible refine gate_dst (N := 78) rfl ?_); (try (refine gate_guard (by rfl) ?_; dsimp only)); refine wpList_load_row rfl 33 (.tmp 9) rfl gb759 rfl 33 _ (0, 0) _ (s_k BK759.out) Try.underlying33 rfl sz33 ?_) | ((with_reducible refine gate_store (t := 33) (p := 3) rfl ?_); refine store_all rfl 33 (.tmp 3) _ rfl gb753 #[.string x760000_11, .string x760001_11, .string x760002_11, .int .i64 x760003_11, .int .i64 x760004_11, .int .i64 x760005_11, .int .i64 x760006_11, .bool x760007_11, .int .i64 x760008_11, .slice Ao121 x760009_11.length co121, .slice Ao122 x760010_11.length co122, .slice Ao123 x760011_11.length co123, .slice Ao124 x760012_11.length co124, .int .i64 x760013_11, .int .i64 x760014_11, .string x760015_11, .slice Ao125 x760016_11.length co125, .slice Ao126 x760017_11.length co126, .int .i64 x760018_11, .int .i64 x760019_11, .string x760020_11, .slice Ao127 x760021_11.length co127, .slice Ao128 x760022_11.length co128] rfl rfl 33 _ (s_k BK753.out) sz33 rfl (by first | rfl | simp [Value.oneCell']) rfl ?_; intro w129 hnb hgr; have n0_ := s_a (s_g HB.out hgr GE753.out); have n1_ := s_a (Kd.R_mono (Kd.R_grown (Kd.R_types HO_760009.out BK753.out (by decide)) hgr (fun _ hk_ => some_ne hk_.2)) (fun _ hk_ => hk_.1)); have n2_ := s_a (Kd.R_mono (Kd.R_grown (Kd.R_types HO_760010.out BK753.out (by decide)) hgr (fun _ hk_ => some_ne hk_.2)) (fun _ hk_ => hk_.1)); have n3_ := s_a (Kd.R_mono (Kd.R_grown (Kd.R_types HO_760011.out BK753.out (by decide)) hgr (fun _ hk_ => some_ne hk_.2)) (fun _ hk_ => hk_.1)); clear HB; clear HO_760009; clear HO_760010; clear HO_760011; have HB := n0_; have HO_760009 := n1_; have HO_760010 := n2_; have HO_760011 := n3_; clear n0_ n1_ n2_ n3_; replace BK753 := s_a (hnb); replace HO_760012 := s_a (Kd.N_grown (s_N HO_760012.out) hgr (fun _ hk_ => some_ne hk_.2.2.2.2.1)); replace HO_760016 := s_a (Kd.V_grown (s_V HO_760016.out) hgr (fun _ hk_ => some_ne hk_.2.2.2.2.2.1)); replace HO_760017 := s_a (Kd.V_grown (s_V HO_760017.out) hgr (fun _ hk_ => some_ne hk_.2.2.2.2.2.1)); replace HO_760021 := s_a (Kd.V_grown (s_V HO_760021.out) hgr (fun _ hk_ => some_ne hk_.2.2.2.2.2.1)); replace HO_760022 := s_a (Kd.V_grown (s_V HO_760022.out) hgr (fun _ hk_ => some_ne hk_.2.2.2.2.2.1)); clear hnb hgr))
           go_roundg kj11
           case measure => have := HK1.out; have := HJ11.out; omega
           case rel => exact ⟨(wrap64 (x7_1 + 1)), (x760000_11), (x760001_11), (x760002_11), (x760003_11), (x760004_11), (x760005_11), (x760006_11), (x760007_11), (x760008_11), (x760009_11), (x760010_11), (x760011_11), (x760012_11), (x760013_11), (x760014_11), (x760015_11), (x760016_11), (x760017_11), (x760018_11), (x760019_11), (x760020_11), (x760021_11), (x760022_11), (.slice Ao121 x760009_11.length co121), (.slice Ao122 x760010_11.length co122), (.slice Ao123 x760011_11.length co123), (.slice Ao124 x760012_11.length co124), (.slice Ao125 x760016_11.length co125), (.slice Ao126 x760017_11.length co126), (.slice Ao127 x760021_11.length co127), (.slice Ao128 x760022_11.length co128), (by first | rfl | (simp; done) | (simp [*]; done)), H', ⟨by have := HK1.out; have := HJ11.out; omega⟩, ⟨Kd.V_mono (Kd.R_V (by exact s_R ((Kd.R_types HO_760009.out BK753.out (by decide))))) (fun k_ hk => by first | exact ⟨(.inr (hk.1)), hk.2⟩ | exact (.inr (hk)))⟩, ⟨Kd.V_mono (Kd.R_V (by exact s_R ((Kd.R_types HO_760010.out BK753.out (by decide))))) (fun k_ hk => by first | exact ⟨(.inr (hk.1)), hk.2⟩ | exact (.inr (hk)))⟩, ⟨Kd.V_mono (Kd.R_V (by exact s_R ((Kd.R_types HO_760011.out BK753.out (by decide))))) (fun k_ hk => by first | exact ⟨(.inr (hk.1)), hk.2⟩ | exact (.inr (hk)))⟩, ⟨Kd.N_V (by exact s_N (Kd.N_mono HO_760012.out (fun _ hk => ⟨hk.1, hk.2.2.2.2.1⟩)))⟩, ⟨by exact s_V (Kd.V_mono HO_760016.out (fun _ hk => ⟨hk.1, hk.2.2.2.2.2.1⟩))⟩, ⟨by exact s_V (Kd.V_mono HO_760017.out (fun _ hk => ⟨hk.1, hk.2.2.2.2.2.1⟩))⟩, ⟨by exact s_V (Kd.V_mono HO_760021.out (fun _ hk => ⟨hk.1, hk.2.2.2.2.2.1⟩))⟩, ⟨by exact s_V (Kd.V_mono HO_760022.out (fun _ hk => ⟨hk.1, hk.2.2.2.2.2.1⟩))⟩, ⟨by exact s_k BK753.out⟩, ⟨by exact s_b HB.out⟩⟩
        ·rw [if_neg c64] at H
         have c64b0 : (x10_11 == 0) = false := beq_eq_false_iff_ne.mpr c64
         have c64b1 : (x10_11 != 0) = true := bne_iff_ne.mpr c64
         have H' := s_a H
         clear H
         go_wp2
         go_roundg kj11
         case measure => have := HK1.out; have := HJ11.out; omega
         case rel => exact ⟨(wrap64 (x7_1 + 1)), (x754000_1), (x754001_1), (x754002_1), (x754003_1), (x754004_1), (x754005_1), (x754006_1), (x754007_1), (x754008_1), (x754009_1), (x754010_1), (x754011_1), (x754012_1), (x754013_1), (x754014_1), (x754015_1), (x754016_1), (x754017_1), (x754018_1), (x754019_1), (x754020_1), (x754021_1), (x754022_1), (.slice Ao17 x754009_1.length co17), (.slice Ao18 x754010_1.length co18), (.slice Ao19 x754011_1.length co19), (.slice Ao20 x754012_1.length co20), (.slice Ao21 x754016_1.length co21), (.slice Ao22 x754017_1.length co22), (.slice Ao23 x754021_1.length co23), (.slice Ao24 x754022_1.length co24), (by first | rfl | (simp; done) | (simp [*]; done)), H', ⟨by have := HK1.out; have := HJ11.out; omega⟩, ⟨by exact s_V (Kd.V_mono HO_754009.out (fun _ hk => ⟨hk.1, hk.2.2.2.2.1⟩))⟩, ⟨by exact s_V (Kd.V_mono HO_754010.out (fun _ hk => ⟨hk.1, hk.2.2.2.2.1⟩))⟩, ⟨by exact s_V (Kd.V_mono HO_754011.out (fun _ hk => ⟨hk.1, hk.2.2.2.2.1⟩))⟩, ⟨by exact s_V (Kd.V_mono HO_754012.out (fun _ hk => ⟨hk.1, hk.2.2.2.2.1⟩))⟩, ⟨by exact s_V (Kd.V_mono HO_754016.out (fun _ hk => ⟨hk.1, hk.2.2.2.2.2.1⟩))⟩, ⟨by exact s_V (Kd.V_mono HO_754017.out (fun _ hk => ⟨hk.1, hk.2.2.2.2.2.1⟩))⟩, ⟨by exact s_V (Kd.V_mono HO_754021.out (fun _ hk => ⟨hk.1, hk.2.2.2.2.2.1⟩))⟩, ⟨by exact s_V (Kd.V_mono HO_754022.out (fun _ hk => ⟨hk.1, hk.2.2.2.2.2.1⟩))⟩, ⟨by exact s_k BK753.out⟩, ⟨by exact s_b HB.out⟩⟩
     ·rw [if_neg c11] at H
      exact absurd H (by simp)
    ·rw [if_neg c10] at H
     have c10b0 : decide (x7_1 < (l1.length : Int)) = false := decide_eq_false c10
     clear c10
     replace H := Option.bind_eq_some_iff.mp H
     obtain ⟨t755, A1300, H⟩ := H
     (try dsimp only at H)
     have A130 := s_a A1300
     clear A1300
     by_cases c131 : t755 = true
     ·subst c131
      (try rw [if_pos rfl] at H)
      replace H := Option.bind_eq_some_iff.mp H
      obtain ⟨t756, A1320, H⟩ := H
      replace H : (if x754007_1 = true then (if (x754011_1.length : Int) = 0 then (if (t756 == (decide (a2 ≥ x754008_1))) = true then (some true) else (some false)) else (if (t756 == false) = true then (some true) else (some false))) else (if (t756 == false) = true then (some true) else (some false))) = some true := H
      have A132 := s_a A1320
      clear A1320
      by_cases c133 : x754007_1 = true
      ·subst c133
       (try rw [if_pos rfl] at H)
       by_cases c134 : (x754011_1.length : Int) = 0
       ·rw [if_pos c134] at H
        have c134b0 : ((x754011_1.length : Int) == 0) = true := beq_iff_eq.mpr c134
        have c134b1 : ((x754011_1.length : Int) != 0) = false := bne_eq_false_iff_eq.mpr c134
        clear c134
        by_cases c135 : (t756 == (decide (a2 ≥ x754008_1))) = true
        ·rw [if_pos c135] at H
         have c135b0 : (t756 == (decide (a2 ≥ x754008_1))) = true := c135
         (try (have c135b1 : decide (t756 = (decide (a2 ≥ x754008_1))) = true := by simpa using c135))
         (try (have c135b2 : (t756 == (decide (a2 ≥ x754008_1))) = true := by simpa using c135))
         clear c135
         clear H
         try go_wp2
         replace HO_754009 := s_a (Kd.V_drew HO_754009.out)
         replace HO_754010 := s_a (Kd.V_drew HO_754010.out)
         replace HO_754011 := s_a (Kd.V_drew HO_754011.out)
         replace HO_754012 := s_a (Kd.V_drew HO_754012.out)
         replace HO_754016 := s_a (Kd.V_drew HO_754016.out)
         replace HO_754017 := s_a (Kd.V_drew HO_754017.out)
         replace HO_754021 := s_a (Kd.V_drew HO_754021.out)
         replace HO_754022 := s_a (Kd.V_drew HO_754022.out)
         replace BK753 := s_a (blk_drew BK753.out)
         replace HB := s_a (below_drew1 HB.out)
         refine start_ (n := 25) (S := fun w' => w'.cell? ⟨gb753, 0, none⟩ = some (.string x754000_1) ∧ w'.cell? ⟨gb753, 1, none⟩ = some (.string x754001_1) ∧ w'.cell? ⟨gb753, 2, none⟩ = some (.string x754002_1) ∧ w'.cell? ⟨gb753, 3, none⟩ = some (.int .i64 x754003_1) ∧ w'.cell? ⟨gb753, 4, none⟩ = some (.int .i64 x754004_1) ∧ w'.cell? ⟨gb753, 5, none⟩ = some (.int .i64 x754005_1) ∧ w'.cell? ⟨gb753, 6, none⟩ = some (.int .i64 x754006_1) ∧ w'.cell? ⟨gb753, 7, none⟩ = some (.bool true) ∧ w'.cell? ⟨gb753, 8, none⟩ = some (.int .i64 x754008_1) ∧ w'.cell? ⟨gb753, 9, none⟩ = some (u754009) ∧ w'.cell? ⟨gb753, 10, none⟩ = some (u754010) ∧ w'.cell? ⟨gb753, 11, none⟩ = some (u754011) ∧ w'.cell? ⟨gb753, 12, none⟩ = some (u754012) ∧ w'.cell? ⟨gb753, 13, none⟩ = some (.int .i64 x754013_1) ∧ w'.cell? ⟨gb753, 14, none⟩ = some (.int .i64 x754014_1) ∧ w'.cell? ⟨gb753, 15, none⟩ = some (.string x754015_1) ∧ w'.cell? ⟨gb753, 16, none⟩ = some (u754016) ∧ w'.cell? ⟨gb753, 17, none⟩ = some (u754017) ∧ w'.cell? ⟨gb753, 18, none⟩ = some (.int .i64 x754018_1) ∧ w'.cell? ⟨gb753, 19, none⟩ = some (.int .i64 x754019_1) ∧ w'.cell? ⟨gb753, 20, none⟩ = some (.string x754020_1) ∧ w'.cell? ⟨gb753, 21, none⟩ = some (u754021) ∧ w'.cell? ⟨gb753, 22, none⟩ = some (u754022)) (ds := []) (bz 25 0) (by kernel_rfl) rfl rfl ⟨s_x BK753.out 0, s_x BK753.out 1, s_x BK753.out 2, s_x BK753.out 3, s_x BK753.out 4, s_x BK753.out 5, s_x BK753.out 6, s_x BK753.out 7, s_x BK753.out 8, s_x BK753.out 9, s_x BK753.out 10, s_x BK753.out 11, s_x BK753.out 12, s_x BK753.out 13, s_x BK753.out 14, s_x BK753.out 15, s_x BK753.out 16, s_x BK753.out 17, s_x BK753.out 18, s_x BK753.out 19, s_x BK753.out 20, s_x BK753.out 21, s_x BK753.out 22⟩ (fun hHeld => ?_); refine with_tabW orchestratorlaw21_DeletionOnce.tab15 orchestratorlaw21_DeletionOnce.bits15 (fun HT_ HW_ => ?_)
         generalize wr.drew = w136 at HO_754009 HO_754010 HO_754011 HO_754012 HO_754016 HO_754017 HO_754021 HO_754022 BK753 HB hHeld ⊢
         refine one_ (i := 0) (N := some 79) (bz 25 1) rfl rfl (one_of HT_.out (by kernel_rfl)) (by decide) (fun K hK => ?_)
         refine goes_ Try.func10 (by kernel_rfl) rfl #[] (by rfl) rfl rfl (by (try simp only [List.map_toArray, List.map_cons, List.map_nil]); first | done | rfl | (simp only [List.length_drop, List.length_take]; rfl)) ?_
         with_reducible refine (orchestratorlaw21_lives.calls k1   _ A130.out).mono ?_
         rintro e w137 ⟨rfl, hb⟩
         refine ⟨_, rfl, ?_⟩
         replace HO_754009 := s_a (Kd.V_below (by exact s_V (HO_754009.out)) hb)
         replace HO_754010 := s_a (Kd.V_below (by exact s_V (HO_754010.out)) hb)
         replace HO_754011 := s_a (Kd.V_below (by exact s_V (HO_754011.out)) hb)
         replace HO_754012 := s_a (Kd.V_below (by exact s_V (HO_754012.out)) hb)
         replace HO_754016 := s_a (Kd.V_below (by exact s_V (HO_754016.out)) hb)
         replace HO_754017 := s_a (Kd.V_below (by exact s_V (HO_754017.out)) hb)
         replace HO_754021 := s_a (Kd.V_below (by exact s_V (HO_754021.out)) hb)
         replace HO_754022 := s_a (Kd.V_below (by exact s_V (HO_754022.out)) hb)
         replace BK753 := s_a (blk_below (s_k BK753.out) hb)
         replace HB := s_a (below_step (by exact s_b HB.out) hb)
         (try clear hb)
         obtain ⟨Ao138, co138, eo138⟩ := Kd.V_slice HO_754009.out
         (first | subst eo138 | (injection eo138 with f1_ f2_ f3_; have f4_ := f1_.symm; have f5_ := f3_.symm; clear f1_ f2_ f3_; subst f4_; subst f5_))
         obtain ⟨Ao139, co139, eo139⟩ := Kd.V_slice HO_754010.out
         (first | subst eo139 | (injection eo139 with f1_ f2_ f3_; have f4_ := f1_.symm; have f5_ := f3_.symm; clear f1_ f2_ f3_; subst f4_; subst f5_))
         obtain ⟨Ao140, co140, eo140⟩ := Kd.V_slice HO_754011.out
         (first | subst eo140 | (injection eo140 with f1_ f2_ f3_; have f4_ := f1_.symm; have f5_ := f3_.symm; clear f1_ f2_ f3_; subst f4_; subst f5_))
         obtain ⟨Ao141, co141, eo141⟩ := Kd.V_slice HO_754012.out
         (first | subst eo141 | (injection eo141 with f1_ f2_ f3_; have f4_ := f1_.symm; have f5_ := f3_.symm; clear f1_ f2_ f3_; subst f4_; subst f5_))
         obtain ⟨Ao142, co142, eo142⟩ := Kd.V_slice HO_754016.out
         (first | subst eo142 | (injection eo142 with f1_ f2_ f3_; have f4_ := f1_.symm; have f5_ := f3_.symm; clear f1_ f2_ f3_; subst f4_; subst f5_))
         obtain ⟨Ao143, co143, eo143⟩ := Kd.V_slice HO_754017.out
         (first | subst eo143 | (injection eo143 with f1_ f2_ f3_; have f4_ := f1_.symm; have f5_ := f3_.symm; clear f1_ f2_ f3_; subst f4_; subst f5_))
         obtain ⟨Ao144, co144, eo144⟩ := Kd.V_slice HO_754021.out
         (first | subst eo144 | (injection eo144 with f1_ f2_ f3_; have f4_ := f1_.symm; have f5_ := f3_.symm; clear f1_ f2_ f3_; subst f4_; subst f5_))
         obtain ⟨Ao145, co145, eo145⟩ := Kd.V_slice HO_754022.out
         (first | subst eo145 | (injection eo145 with f1_ f2_ f3_; have f4_ := f1_.symm; have f5_ := f3_.symm; clear f1_ f2_ f3_; subst f4_; subst f5_))
         refine hK.out _ _ ⟨s_x BK753.out 0, s_x BK753.out 1, s_x BK753.out 2, s_x BK753.out 3, s_x BK753.out 4, s_x BK753.out 5, s_x BK753.out 6, s_x BK753.out 7, s_x BK753.out 8, s_x BK753.out 9, s_x BK753.out 10, s_x BK753.out 11, s_x BK753.out 12, s_x BK753.out 13, s_x BK753.out 14, s_x BK753.out 15, s_x BK753.out 16, s_x BK753.out 17, s_x BK753.out 18, s_x BK753.out 19, s_x BK753.out 20, s_x BK753.out 21, s_x BK753.out 22⟩ (fun hHeld => ?_)
         clear hK K
         refine norm_ (a' := ?_) ?_ ?_
         rotate_left
         ·show Act.put _ (some 79) _ = _
          simp only [Act.put, List.setIfInBounds_toArray, List.set_cons_zero, List.set_cons_succ, i64_w, i32_w]
          rfl
         refine q_p 1 (some 80) (bz 25 3) (any_of HT_.out (by kernel_rfl)) (v := ?_) ?_ (a' := ?_) ?_ ?_; rotate_left 2
         ·intro w'; go_simp; with_reducible rfl
         ·simp only [Act.put, List.setIfInBounds_toArray, List.set_cons_zero, List.set_cons_succ, i64_w, i32_w]; rfl
         refine q_p 3 (some 82) (bz 25 11) (any_of HT_.out (by kernel_rfl)) (v := ?_) ?_ (a' := ?_) ?_ ?_; rotate_left 2
         ·intro w'; go_simp; with_reducible rfl
         ·simp only [Act.put, List.setIfInBounds_toArray, List.set_cons_zero, List.set_cons_succ, i64_w, i32_w]; rfl
         refine q_p 5 (some 84) (bz 25 43) (any_of HT_.out (by kernel_rfl)) (v := ?_) ?_ (a' := ?_) ?_ ?_; rotate_left 2
         ·intro w'; go_simp; with_reducible rfl
         ·simp only [Act.put, List.setIfInBounds_toArray, List.set_cons_zero, List.set_cons_succ, i64_w, i32_w]; rfl
         refine q_p 6 (some 85) (bz 25 107) (any_of HT_.out (by kernel_rfl)) (v := ?_) ?_ (a' := ?_) ?_ ?_; rotate_left 2
         ·intro w'; go_simp; with_reducible rfl
         ·simp only [Act.put, List.setIfInBounds_toArray, List.set_cons_zero, List.set_cons_succ, i64_w, i32_w]; rfl
         refine q_t 2 (some 81) (bz 25 111) (take_ofW HT_.out HW_.out (by kernel_rfl)) hHeld (v := ?_) ?_ (a' := ?_) ?_ ?_; rotate_left 2
         ·rintro w' ⟨s0, s1, s2, s3, s4, s5, s6, s7, s8, s9, s10, s11, s12, s13, s14, s15, s16, s17, s18, s19, s20, s21, s22⟩; (refine (s_ld rfl 33 (.tmp 3) ?_ _ ?_ _ _ (cells_at s0 (s_cc s1 (s_cc s2 (s_cc s3 (s_cc s4 (s_cc s5 (s_cc s6 (s_cc s7 (s_cc s8 (s_cc s9 (s_cc s10 (s_cc s11 (s_cc s12 (s_cc s13 (s_cc s14 (s_cc s15 (s_cc s16 (s_cc s17 (s_cc s18 (s_cc s19 (s_cc s20 (s_cc s21 (s_cc s22 s_cn))))))))))))))))))))))) Try.underlying33 (by rfl) sz33).trans ?_ <;> first | (with_reducible rfl) | rfl)
         ·simp only [Act.put, List.setIfInBounds_toArray, List.set_cons_zero, List.set_cons_succ, i64_w, i32_w]; rfl
         refine q_t 7 (some 86) (bz 25 239) (take_ofW HT_.out HW_.out (by kernel_rfl)) hHeld (v := ?_) ?_ (a' := ?_) ?_ ?_; rotate_left 2
         ·rintro w' ⟨s0, s1, s2, s3, s4, s5, s6, s7, s8, s9, s10, s11, s12, s13, s14, s15, s16, s17, s18, s19, s20, s21, s22⟩; go_simp; with_reducible rfl
         ·simp only [Act.put, List.setIfInBounds_toArray, List.set_cons_zero, List.set_cons_succ, i64_w, i32_w]; rfl
         refine one_ (i := 4) (N := some 83) (bz 25 255) rfl rfl (one_of HT_.out (by kernel_rfl)) (by decide) (fun K hK => ?_)
         refine goes_ Try.func14 (by kernel_rfl) rfl #[.agg #[.string x754000_1, .string x754001_1, .string x754002_1, .int .i64 x754003_1, .int .i64 x754004_1, .int .i64 x754005_1, .int .i64 x754006_1, .bool true, .int .i64 x754008_1, .slice Ao138 x754009_1.length co138, .slice Ao139 x754010_1.length co139, .slice Ao140 x754011_1.length co140, .slice Ao141 x754012_1.length co141, .int .i64 x754013_1, .int .i64 x754014_1, .string x754015_1, .slice Ao142 x754016_1.length co142, .slice Ao143 x754017_1.length co143, .int .i64 x754018_1, .int .i64 x754019_1, .string x754020_1, .slice Ao144 x754021_1.length co144, .slice Ao145 x754022_1.length co145], .int .i64 a2] (by rfl) rfl rfl (by (try simp only [List.map_toArray, List.map_cons, List.map_nil]); first | done | rfl | (simp only [List.length_drop, List.length_take]; rfl)) ?_
         with_reducible refine (deletion_Due.calls _ _ _ _ _ _ _ _ _ _ _ _ _ _ _ _ _ _ _ _ _ _ _ _ _ _ _ _ _ _ _ _ _ _ _ _ _ _ _ _ _ _ ?side1 ?side2 ?side3 ?side4 ?side5 ?side6 ?side7 ?side8 ?side9 ?side10 ?side11 ?side12 ?side13 ?side14 ?side15 ?side16 A132.out).mono ?_
         (case side1 => exact s_C (Kd.V_reads' HO_754009.out).2.2)
         (case side2 => exact (Kd.V_reads' HO_754009.out).2.1)
         (case side3 => exact s_C (Kd.V_reads' HO_754010.out).2.2)
         (case side4 => exact (Kd.V_reads' HO_754010.out).2.1)
         (case side5 => exact s_C (Kd.V_reads' HO_754011.out).2.2)
         (case side6 => exact (Kd.V_reads' HO_754011.out).2.1)
         (case side7 => exact s_C (Kd.V_reads' HO_754012.out).2.2)
         (case side8 => exact (Kd.V_reads' HO_754012.out).2.1)
         (case side9 => exact s_C (Kd.V_reads' HO_754016.out).2.2)
         (case side10 => exact (Kd.V_reads' HO_754016.out).2.1)
         (case side11 => exact s_C (Kd.V_reads' HO_754017.out).2.2)
         (case side12 => exact (Kd.V_reads' HO_754017.out).2.1)
         (case side13 => exact s_C (Kd.V_reads' HO_754021.out).2.2)
         (case side14 => exact (Kd.V_reads' HO_754021.out).2.1)
         (case side15 => exact s_C (Kd.V_reads' HO_754022.out).2.2)
         (case side16 => exact (Kd.V_reads' HO_754022.out).2.1)
         rintro e w146 ⟨rfl, hb⟩
         refine ⟨_, rfl, ?_⟩
         replace BK753 := s_a (blk_below (s_k BK753.out) hb)
         replace HB := s_a (below_step (by exact s_b HB.out) hb)
         (try clear hb)
         refine hK.out _ _ ⟨s_x BK753.out 0, s_x BK753.out 1, s_x BK753.out 2, s_x BK753.out 3, s_x BK753.out 4, s_x BK753.out 5, s_x BK753.out 6, s_x BK753.out 7, s_x BK753.out 8, s_x BK753.out 9, s_x BK753.out 10, s_x BK753.out 11, s_x BK753.out 12, s_x BK753.out 13, s_x BK753.out 14, s_x BK753.out 15, s_x BK753.out 16, s_x BK753.out 17, s_x BK753.out 18, s_x BK753.out 19, s_x BK753.out 20, s_x BK753.out 21, s_x BK753.out 22⟩ (fun hHeld => ?_)
         clear hK K
         refine norm_ (a' := ?_) ?_ ?_
         rotate_left
         ·show Act.put _ (some 83) _ = _
          simp only [Act.put, List.setIfInBounds_toArray, List.set_cons_zero, List.set_cons_succ, i64_w, i32_w]
          rfl
         refine q_p 8 (some 87) (bz 25 511) (any_of HT_.out (by kernel_rfl)) (v := ?_) ?_ (a' := ?_) ?_ ?_; rotate_left 2
         ·intro w'; go_simp; with_reducible rfl
         ·simp only [Act.put, List.setIfInBounds_toArray, List.set_cons_zero, List.set_cons_succ, i64_w, i32_w]; rfl
         refine q_p 9 (some 88) (bz 25 1023) (any_of HT_.out (by kernel_rfl)) (v := ?_) ?_ (a' := ?_) ?_ ?_; rotate_left 2
         ·intro w'; go_simp; with_reducible rfl
         ·simp only [Act.put, List.setIfInBounds_toArray, List.set_cons_zero, List.set_cons_succ, i64_w, i32_w]; rfl
         refine q_p 10 (some 89) (bz 25 2047) (any_of HT_.out (by kernel_rfl)) (v := ?_) ?_ (a' := ?_) ?_ ?_; rotate_left 2
         ·intro w'; go_simp; with_reducible rfl
         ·simp only [Act.put, List.setIfInBounds_toArray, List.set_cons_zero, List.set_cons_succ, i64_w, i32_w]; rfl
         refine q_t 11 (some 90) (bz 25 4095) (take_ofW HT_.out HW_.out (by kernel_rfl)) hHeld (v := ?_) ?_ (a' := ?_) ?_ ?_; rotate_left 2
         ·rintro w' ⟨s0, s1, s2, s3, s4, s5, s6, s7, s8, s9, s10, s11, s12, s13, s14, s15, s16, s17, s18, s19, s20, s21, s22⟩; go_simp; with_reducible rfl
         ·simp only [Act.put, List.setIfInBounds_toArray, List.set_cons_zero, List.set_cons_succ, i64_w, i32_w]; rfl
         refine q_p 12 (some 91) (bz 25 8191) (any_of HT_.out (by kernel_rfl)) (v := ?_) ?_ (a' := ?_) ?_ ?_; rotate_left 2
         ·intro w'; go_simp; with_reducible rfl
         ·simp only [Act.put, List.setIfInBounds_toArray, List.set_cons_zero, List.set_cons_succ, i64_w, i32_w]; rfl
         refine q_p 13 (some 92) (bz 25 16383) (any_of HT_.out (by kernel_rfl)) (v := ?_) ?_ (a' := ?_) ?_ ?_; rotate_left 2
         ·intro w'; go_simp; with_reducible rfl
         ·simp only [Act.put, List.setIfInBounds_toArray, List.set_cons_zero, List.set_cons_succ, i64_w, i32_w]; rfl
         refine q_p 14 (some 93) (bz 25 32767) (any_of HT_.out (by kernel_rfl)) (v := ?_) ?_ (a' := ?_) ?_ ?_; rotate_left 2
         ·intro w'; go_simp; with_reducible rfl
         ·simp only [Act.put, List.setIfInBounds_toArray, List.set_cons_zero, List.set_cons_succ, i64_w, i32_w]; rfl
         refine q_p 15 (some 94) (bz 25 65535) (any_of HT_.out (by kernel_rfl)) (v := ?_) ?_ (a' := ?_) ?_ ?_; rotate_left 2
         ·intro w'; go_simp; with_reducible rfl
         ·simp only [Act.put, List.setIfInBounds_toArray, List.set_cons_zero, List.set_cons_succ, i64_w, i32_w]; rfl
         refine q_p 16 (some 95) (bz 25 131071) (any_of HT_.out (by kernel_rfl)) (v := ?_) ?_ (a' := ?_) ?_ ?_; rotate_left 2
         ·intro w'; go_simp; with_reducible rfl
         ·simp only [Act.put, List.setIfInBounds_toArray, List.set_cons_zero, List.set_cons_succ, i64_w, i32_w]; rfl
         refine q_p 17 (some 96) (bz 25 262143) (any_of HT_.out (by kernel_rfl)) (v := ?_) ?_ (a' := ?_) ?_ ?_; rotate_left 2
         ·intro w'; go_simp; with_reducible rfl
         ·simp only [Act.put, List.setIfInBounds_toArray, List.set_cons_zero, List.set_cons_succ, i64_w, i32_w]; rfl
         refine q_p 18 (some 97) (bz 25 524287) (any_of HT_.out (by kernel_rfl)) (v := ?_) ?_ (a' := ?_) ?_ ?_; rotate_left 2
         ·intro w'; go_simp; with_reducible rfl
         ·simp only [Act.put, List.setIfInBounds_toArray, List.set_cons_zero, List.set_cons_succ, i64_w, i32_w]; rfl
         refine q_t 19 (some 98) (bz 25 1048575) (take_ofW HT_.out HW_.out (by kernel_rfl)) hHeld (v := ?_) ?_ (a' := ?_) ?_ ?_; rotate_left 2
         ·rintro w' ⟨s0, s1, s2, s3, s4, s5, s6, s7, s8, s9, s10, s11, s12, s13, s14, s15, s16, s17, s18, s19, s20, s21, s22⟩; go_simp; with_reducible rfl
         ·simp only [Act.put, List.setIfInBounds_toArray, List.set_cons_zero, List.set_cons_succ, i64_w, i32_w]; rfl
         refine q_p 20 (some 99) (bz 25 2097151) (any_of HT_.out (by kernel_rfl)) (v := ?_) ?_ (a' := ?_) ?_ ?_; rotate_left 2
         ·intro w'; go_simp; with_reducible rfl
         ·simp only [Act.put, List.setIfInBounds_toArray, List.set_cons_zero, List.set_cons_succ, i64_w, i32_w]; rfl
         refine q_p 21 (some 100) (bz 25 4194303) (any_of HT_.out (by kernel_rfl)) (v := ?_) ?_ (a' := ?_) ?_ ?_; rotate_left 2
         ·intro w'; go_simp; with_reducible rfl
         ·simp only [Act.put, List.setIfInBounds_toArray, List.set_cons_zero, List.set_cons_succ, i64_w, i32_w]; rfl
         refine q_p 22 (some 101) (bz 25 8388607) (any_of HT_.out (by kernel_rfl)) (v := ?_) ?_ (a' := ?_) ?_ ?_; rotate_left 2
         ·intro w'; go_simp; with_reducible rfl
         ·simp only [Act.put, List.setIfInBounds_toArray, List.set_cons_zero, List.set_cons_succ, i64_w, i32_w]; rfl
         refine q_p 23 (some 102) (bz 25 16777215) (any_of HT_.out (by kernel_rfl)) (v := ?_) ?_ (a' := ?_) ?_ ?_; rotate_left 2
         ·intro w'; go_simp; with_reducible rfl
         ·simp only [Act.put, List.setIfInBounds_toArray, List.set_cons_zero, List.set_cons_succ, i64_w, i32_w]; rfl
         refine q_p 24 (some 6) (bz 25 33554431) (any_of HT_.out (by kernel_rfl)) (v := ?_) ?_ (a' := ?_) ?_ ?_; rotate_left 2
         ·intro w'; go_simp; with_reducible rfl
         ·simp only [Act.put, List.setIfInBounds_toArray, List.set_cons_zero, List.set_cons_succ, i64_w, i32_w]; rfl
         refine done_ (done_of HT_.out (by kernel_rfl)) ?_
         try go_wp2
         go_ret
         exact ⟨by first | rfl | (simp [errW_none, errW_some] <;> rfl) | (simp [*, errW_none, errW_some] <;> rfl), by exact s_b HB.out⟩
        ·rw [if_neg c135] at H
         have c135b0 : (t756 == (decide (a2 ≥ x754008_1))) = false := by simpa using c135
         (try (have c135b1 : decide (t756 = (decide (a2 ≥ x754008_1))) = false := by simpa using c135))
         (try (have c135b2 : (t756 == (decide (a2 ≥ x754008_1))) = false := by simpa using c135))
         (try (have c135b3 : ¬ (t756 = (decide (a2 ≥ x754008_1))) := by simpa using c135))
         clear c135
         exact absurd H (by simp)
       ·rw [if_neg c134] at H
        have c134b0 : ((x754011_1.length : Int) == 0) = false := beq_eq_false_iff_ne.mpr c134
        have c134b1 : ((x754011_1.length : Int) != 0) = true := bne_iff_ne.mpr c134
        have c134b2 : ¬ (x754011_1 = []) := fun h_ => c134 (by rw [h_]; rfl)
        by_cases c147 : (t756 == false) = true
        ·rw [if_pos c147] at H
         have c147b0 : (t756 == false) = true := c147
         (try (have c147b1 : decide (t756 = false) = true := by simpa using c147))
         (try (have c147b2 : (t756 == false) = true := by simpa using c147))
         clear c147
         clear H
         try go_wp2
         replace HO_754009 := s_a (Kd.V_drew HO_754009.out)
         replace HO_754010 := s_a (Kd.V_drew HO_754010.out)
         replace HO_754011 := s_a (Kd.V_drew HO_754011.out)
         replace HO_754012 := s_a (Kd.V_drew HO_754012.out)
         replace HO_754016 := s_a (Kd.V_drew HO_754016.out)
         replace HO_754017 := s_a (Kd.V_drew HO_754017.out)
         replace HO_754021 := s_a (Kd.V_drew HO_754021.out)
         replace HO_754022 := s_a (Kd.V_drew HO_754022.out)
         replace BK753 := s_a (blk_drew BK753.out)
         replace HB := s_a (below_drew1 HB.out)
         refine start_ (n := 25) (S := fun w' => w'.cell? ⟨gb753, 0, none⟩ = some (.string x754000_1) ∧ w'.cell? ⟨gb753, 1, none⟩ = some (.string x754001_1) ∧ w'.cell? ⟨gb753, 2, none⟩ = some (.string x754002_1) ∧ w'.cell? ⟨gb753, 3, none⟩ = some (.int .i64 x754003_1) ∧ w'.cell? ⟨gb753, 4, none⟩ = some (.int .i64 x754004_1) ∧ w'.cell? ⟨gb753, 5, none⟩ = some (.int .i64 x754005_1) ∧ w'.cell? ⟨gb753, 6, none⟩ = some (.int .i64 x754006_1) ∧ w'.cell? ⟨gb753, 7, none⟩ = some (.bool true) ∧ w'.cell? ⟨gb753, 8, none⟩ = some (.int .i64 x754008_1) ∧ w'.cell? ⟨gb753, 9, none⟩ = some (u754009) ∧ w'.cell? ⟨gb753, 10, none⟩ = some (u754010) ∧ w'.cell? ⟨gb753, 11, none⟩ = some (u754011) ∧ w'.cell? ⟨gb753, 12, none⟩ = some (u754012) ∧ w'.cell? ⟨gb753, 13, none⟩ = some (.int .i64 x754013_1) ∧ w'.cell? ⟨gb753, 14, none⟩ = some (.int .i64 x754014_1) ∧ w'.cell? ⟨gb753, 15, none⟩ = some (.string x754015_1) ∧ w'.cell? ⟨gb753, 16, none⟩ = some (u754016) ∧ w'.cell? ⟨gb753, 17, none⟩ = some (u754017) ∧ w'.cell? ⟨gb753, 18, none⟩ = some (.int .i64 x754018_1) ∧ w'.cell? ⟨gb753, 19, none⟩ = some (.int .i64 x754019_1) ∧ w'.cell? ⟨gb753, 20, none⟩ = some (.string x754020_1) ∧ w'.cell? ⟨gb753, 21, none⟩ = some (u754021) ∧ w'.cell? ⟨gb753, 22, none⟩ = some (u754022)) (ds := []) (bz 25 0) (by kernel_rfl) rfl rfl ⟨s_x BK753.out 0, s_x BK753.out 1, s_x BK753.out 2, s_x BK753.out 3, s_x BK753.out 4, s_x BK753.out 5, s_x BK753.out 6, s_x BK753.out 7, s_x BK753.out 8, s_x BK753.out 9, s_x BK753.out 10, s_x BK753.out 11, s_x BK753.out 12, s_x BK753.out 13, s_x BK753.out 14, s_x BK753.out 15, s_x BK753.out 16, s_x BK753.out 17, s_x BK753.out 18, s_x BK753.out 19, s_x BK753.out 20, s_x BK753.out 21, s_x BK753.out 22⟩ (fun hHeld => ?_); refine with_tabW orchestratorlaw21_DeletionOnce.tab15 orchestratorlaw21_DeletionOnce.bits15 (fun HT_ HW_ => ?_)
         generalize wr.drew = w148 at HO_754009 HO_754010 HO_754011 HO_754012 HO_754016 HO_754017 HO_754021 HO_754022 BK753 HB hHeld ⊢
         refine one_ (i := 0) (N := some 79) (bz 25 1) rfl rfl (one_of HT_.out (by kernel_rfl)) (by decide) (fun K hK => ?_)
         refine goes_ Try.func10 (by kernel_rfl) rfl #[] (by rfl) rfl rfl (by (try simp only [List.map_toArray, List.map_cons, List.map_nil]); first | done | rfl | (simp only [List.length_drop, List.length_take]; rfl)) ?_
         with_reducible refine (orchestratorlaw21_lives.calls k1   _ A130.out).mono ?_
         rintro e w149 ⟨rfl, hb⟩
         refine ⟨_, rfl, ?_⟩
         replace HO_754009 := s_a (Kd.V_below (by exact s_V (HO_754009.out)) hb)
         replace HO_754010 := s_a (Kd.V_below (by exact s_V (HO_754010.out)) hb)
         replace HO_754011 := s_a (Kd.V_below (by exact s_V (HO_754011.out)) hb)
         replace HO_754012 := s_a (Kd.V_below (by exact s_V (HO_754012.out)) hb)
         replace HO_754016 := s_a (Kd.V_below (by exact s_V (HO_754016.out)) hb)
         replace HO_754017 := s_a (Kd.V_below (by exact s_V (HO_754017.out)) hb)
         replace HO_754021 := s_a (Kd.V_below (by exact s_V (HO_754021.out)) hb)
         replace HO_754022 := s_a (Kd.V_below (by exact s_V (HO_754022.out)) hb)
         replace BK753 := s_a (blk_below (s_k BK753.out) hb)
         replace HB := s_a (below_step (by exact s_b HB.out) hb)
         (try clear hb)
         obtain ⟨Ao150, co150, eo150⟩ := Kd.V_slice HO_754009.out
         (first | subst eo150 | (injection eo150 with f1_ f2_ f3_; have f4_ := f1_.symm; have f5_ := f3_.symm; clear f1_ f2_ f3_; subst f4_; subst f5_))
         obtain ⟨Ao151, co151, eo151⟩ := Kd.V_slice HO_754010.out
         (first | subst eo151 | (injection eo151 with f1_ f2_ f3_; have f4_ := f1_.symm; have f5_ := f3_.symm; clear f1_ f2_ f3_; subst f4_; subst f5_))
         obtain ⟨Ao152, co152, eo152⟩ := Kd.V_slice HO_754011.out
         (first | subst eo152 | (injection eo152 with f1_ f2_ f3_; have f4_ := f1_.symm; have f5_ := f3_.symm; clear f1_ f2_ f3_; subst f4_; subst f5_))
         obtain ⟨Ao153, co153, eo153⟩ := Kd.V_slice HO_754012.out
         (first | subst eo153 | (injection eo153 with f1_ f2_ f3_; have f4_ := f1_.symm; have f5_ := f3_.symm; clear f1_ f2_ f3_; subst f4_; subst f5_))
         obtain ⟨Ao154, co154, eo154⟩ := Kd.V_slice HO_754016.out
         (first | subst eo154 | (injection eo154 with f1_ f2_ f3_; have f4_ := f1_.symm; have f5_ := f3_.symm; clear f1_ f2_ f3_; subst f4_; subst f5_))
         obtain ⟨Ao155, co155, eo155⟩ := Kd.V_slice HO_754017.out
         (first | subst eo155 | (injection eo155 with f1_ f2_ f3_; have f4_ := f1_.symm; have f5_ := f3_.symm; clear f1_ f2_ f3_; subst f4_; subst f5_))
         obtain ⟨Ao156, co156, eo156⟩ := Kd.V_slice HO_754021.out
         (first | subst eo156 | (injection eo156 with f1_ f2_ f3_; have f4_ := f1_.symm; have f5_ := f3_.symm; clear f1_ f2_ f3_; subst f4_; subst f5_))
         obtain ⟨Ao157, co157, eo157⟩ := Kd.V_slice HO_754022.out
         (first | subst eo157 | (injection eo157 with f1_ f2_ f3_; have f4_ := f1_.symm; have f5_ := f3_.symm; clear f1_ f2_ f3_; subst f4_; subst f5_))
         refine hK.out _ _ ⟨s_x BK753.out 0, s_x BK753.out 1, s_x BK753.out 2, s_x BK753.out 3, s_x BK753.out 4, s_x BK753.out 5, s_x BK753.out 6, s_x BK753.out 7, s_x BK753.out 8, s_x BK753.out 9, s_x BK753.out 10, s_x BK753.out 11, s_x BK753.out 12, s_x BK753.out 13, s_x BK753.out 14, s_x BK753.out 15, s_x BK753.out 16, s_x BK753.out 17, s_x BK753.out 18, s_x BK753.out 19, s_x BK753.out 20, s_x BK753.out 21, s_x BK753.out 22⟩ (fun hHeld => ?_)
         clear hK K
         refine norm_ (a' := ?_) ?_ ?_
         rotate_left
         ·show Act.put _ (some 79) _ = _
          simp only [Act.put, List.setIfInBounds_toArray, List.set_cons_zero, List.set_cons_succ, i64_w, i32_w]
          rfl
         refine q_p 1 (some 80) (bz 25 3) (any_of HT_.out (by kernel_rfl)) (v := ?_) ?_ (a' := ?_) ?_ ?_; rotate_left 2
         ·intro w'; go_simp; with_reducible rfl
         ·simp only [Act.put, List.setIfInBounds_toArray, List.set_cons_zero, List.set_cons_succ, i64_w, i32_w]; rfl
         refine q_p 3 (some 82) (bz 25 11) (any_of HT_.out (by kernel_rfl)) (v := ?_) ?_ (a' := ?_) ?_ ?_; rotate_left 2
         ·intro w'; go_simp; with_reducible rfl
         ·simp only [Act.put, List.setIfInBounds_toArray, List.set_cons_zero, List.set_cons_succ, i64_w, i32_w]; rfl
         refine q_p 5 (some 84) (bz 25 43) (any_of HT_.out (by kernel_rfl)) (v := ?_) ?_ (a' := ?_) ?_ ?_; rotate_left 2
         ·intro w'; go_simp; with_reducible rfl
         ·simp only [Act.put, List.setIfInBounds_toArray, List.set_cons_zero, List.set_cons_succ, i64_w, i32_w]; rfl
         refine q_p 6 (some 85) (bz 25 107) (any_of HT_.out (by kernel_rfl)) (v := ?_) ?_ (a' := ?_) ?_ ?_; rotate_left 2
         ·intro w'; go_simp; with_reducible rfl
         ·simp only [Act.put, List.setIfInBounds_toArray, List.set_cons_zero, List.set_cons_succ, i64_w, i32_w]; rfl
         refine q_t 2 (some 81) (bz 25 111) (take_ofW HT_.out HW_.out (by kernel_rfl)) hHeld (v := ?_) ?_ (a' := ?_) ?_ ?_; rotate_left 2
         ·rintro w' ⟨s0, s1, s2, s3, s4, s5, s6, s7, s8, s9, s10, s11, s12, s13, s14, s15, s16, s17, s18, s19, s20, s21, s22⟩; (refine (s_ld rfl 33 (.tmp 3) ?_ _ ?_ _ _ (cells_at s0 (s_cc s1 (s_cc s2 (s_cc s3 (s_cc s4 (s_cc s5 (s_cc s6 (s_cc s7 (s_cc s8 (s_cc s9 (s_cc s10 (s_cc s11 (s_cc s12 (s_cc s13 (s_cc s14 (s_cc s15 (s_cc s16 (s_cc s17 (s_cc s18 (s_cc s19 (s_cc s20 (s_cc s21 (s_cc s22 s_cn))))))))))))))))))))))) Try.underlying33 (by rfl) sz33).trans ?_ <;> first | (with_reducible rfl) | rfl)
         ·simp only [Act.put, List.setIfInBounds_toArray, List.set_cons_zero, List.set_cons_succ, i64_w, i32_w]; rfl
         refine q_t 7 (some 86) (bz 25 239) (take_ofW HT_.out HW_.out (by kernel_rfl)) hHeld (v := ?_) ?_ (a' := ?_) ?_ ?_; rotate_left 2
         ·rintro w' ⟨s0, s1, s2, s3, s4, s5, s6, s7, s8, s9, s10, s11, s12, s13, s14, s15, s16, s17, s18, s19, s20, s21, s22⟩; go_simp; with_reducible rfl
         ·simp only [Act.put, List.setIfInBounds_toArray, List.set_cons_zero, List.set_cons_succ, i64_w, i32_w]; rfl
         refine one_ (i := 4) (N := some 83) (bz 25 255) rfl rfl (one_of HT_.out (by kernel_rfl)) (by decide) (fun K hK => ?_)
         refine goes_ Try.func14 (by kernel_rfl) rfl #[.agg #[.string x754000_1, .string x754001_1, .string x754002_1, .int .i64 x754003_1, .int .i64 x754004_1, .int .i64 x754005_1, .int .i64 x754006_1, .bool true, .int .i64 x754008_1, .slice Ao150 x754009_1.length co150, .slice Ao151 x754010_1.length co151, .slice Ao152 x754011_1.length co152, .slice Ao153 x754012_1.length co153, .int .i64 x754013_1, .int .i64 x754014_1, .string x754015_1, .slice Ao154 x754016_1.length co154, .slice Ao155 x754017_1.length co155, .int .i64 x754018_1, .int .i64 x754019_1, .string x754020_1, .slice Ao156 x754021_1.length co156, .slice Ao157 x754022_1.length co157], .int .i64 a2] (by rfl) rfl rfl (by (try simp only [List.map_toArray, List.map_cons, List.map_nil]); first | done | rfl | (simp only [List.length_drop, List.length_take]; rfl)) ?_
         with_reducible refine (deletion_Due.calls _ _ _ _ _ _ _ _ _ _ _ _ _ _ _ _ _ _ _ _ _ _ _ _ _ _ _ _ _ _ _ _ _ _ _ _ _ _ _ _ _ _ ?side1 ?side2 ?side3 ?side4 ?side5 ?side6 ?side7 ?side8 ?side9 ?side10 ?side11 ?side12 ?side13 ?side14 ?side15 ?side16 A132.out).mono ?_
         (case side1 => exact s_C (Kd.V_reads' HO_754009.out).2.2)
         (case side2 => exact (Kd.V_reads' HO_754009.out).2.1)
         (case side3 => exact s_C (Kd.V_reads' HO_754010.out).2.2)
         (case side4 => exact (Kd.V_reads' HO_754010.out).2.1)
         (case side5 => exact s_C (Kd.V_reads' HO_754011.out).2.2)
         (case side6 => exact (Kd.V_reads' HO_754011.out).2.1)
         (case side7 => exact s_C (Kd.V_reads' HO_754012.out).2.2)
         (case side8 => exact (Kd.V_reads' HO_754012.out).2.1)
         (case side9 => exact s_C (Kd.V_reads' HO_754016.out).2.2)
         (case side10 => exact (Kd.V_reads' HO_754016.out).2.1)
         (case side11 => exact s_C (Kd.V_reads' HO_754017.out).2.2)
         (case side12 => exact (Kd.V_reads' HO_754017.out).2.1)
         (case side13 => exact s_C (Kd.V_reads' HO_754021.out).2.2)
         (case side14 => exact (Kd.V_reads' HO_754021.out).2.1)
         (case side15 => exact s_C (Kd.V_reads' HO_754022.out).2.2)
         (case side16 => exact (Kd.V_reads' HO_754022.out).2.1)
         rintro e w158 ⟨rfl, hb⟩
         refine ⟨_, rfl, ?_⟩
         replace BK753 := s_a (blk_below (s_k BK753.out) hb)
         replace HB := s_a (below_step (by exact s_b HB.out) hb)
         (try clear hb)
         refine hK.out _ _ ⟨s_x BK753.out 0, s_x BK753.out 1, s_x BK753.out 2, s_x BK753.out 3, s_x BK753.out 4, s_x BK753.out 5, s_x BK753.out 6, s_x BK753.out 7, s_x BK753.out 8, s_x BK753.out 9, s_x BK753.out 10, s_x BK753.out 11, s_x BK753.out 12, s_x BK753.out 13, s_x BK753.out 14, s_x BK753.out 15, s_x BK753.out 16, s_x BK753.out 17, s_x BK753.out 18, s_x BK753.out 19, s_x BK753.out 20, s_x BK753.out 21, s_x BK753.out 22⟩ (fun hHeld => ?_)
         clear hK K
         refine norm_ (a' := ?_) ?_ ?_
         rotate_left
         ·show Act.put _ (some 83) _ = _
          simp only [Act.put, List.setIfInBounds_toArray, List.set_cons_zero, List.set_cons_succ, i64_w, i32_w]
          rfl
         refine q_p 8 (some 87) (bz 25 511) (any_of HT_.out (by kernel_rfl)) (v := ?_) ?_ (a' := ?_) ?_ ?_; rotate_left 2
         ·intro w'; go_simp; with_reducible rfl
         ·simp only [Act.put, List.setIfInBounds_toArray, List.set_cons_zero, List.set_cons_succ, i64_w, i32_w]; rfl
         refine q_p 9 (some 88) (bz 25 1023) (any_of HT_.out (by kernel_rfl)) (v := ?_) ?_ (a' := ?_) ?_ ?_; rotate_left 2
         ·intro w'; go_simp; with_reducible rfl
         ·simp only [Act.put, List.setIfInBounds_toArray, List.set_cons_zero, List.set_cons_succ, i64_w, i32_w]; rfl
         refine q_p 10 (some 89) (bz 25 2047) (any_of HT_.out (by kernel_rfl)) (v := ?_) ?_ (a' := ?_) ?_ ?_; rotate_left 2
         ·intro w'; go_simp; with_reducible rfl
         ·simp only [Act.put, List.setIfInBounds_toArray, List.set_cons_zero, List.set_cons_succ, i64_w, i32_w]; rfl
         refine q_t 11 (some 90) (bz 25 4095) (take_ofW HT_.out HW_.out (by kernel_rfl)) hHeld (v := ?_) ?_ (a' := ?_) ?_ ?_; rotate_left 2
         ·rintro w' ⟨s0, s1, s2, s3, s4, s5, s6, s7, s8, s9, s10, s11, s12, s13, s14, s15, s16, s17, s18, s19, s20, s21, s22⟩; go_simp; with_reducible rfl
         ·simp only [Act.put, List.setIfInBounds_toArray, List.set_cons_zero, List.set_cons_succ, i64_w, i32_w]; rfl
         refine q_p 12 (some 91) (bz 25 8191) (any_of HT_.out (by kernel_rfl)) (v := ?_) ?_ (a' := ?_) ?_ ?_; rotate_left 2
         ·intro w'; go_simp; with_reducible rfl
         ·simp only [Act.put, List.setIfInBounds_toArray, List.set_cons_zero, List.set_cons_succ, i64_w, i32_w]; rfl
         refine q_p 13 (some 92) (bz 25 16383) (any_of HT_.out (by kernel_rfl)) (v := ?_) ?_ (a' := ?_) ?_ ?_; rotate_left 2
         ·intro w'; go_simp; with_reducible rfl
         ·simp only [Act.put, List.setIfInBounds_toArray, List.set_cons_zero, List.set_cons_succ, i64_w, i32_w]; rfl
         refine q_p 14 (some 93) (bz 25 32767) (any_of HT_.out (by kernel_rfl)) (v := ?_) ?_ (a' := ?_) ?_ ?_; rotate_left 2
         ·intro w'; go_simp; with_reducible rfl
         ·simp only [Act.put, List.setIfInBounds_toArray, List.set_cons_zero, List.set_cons_succ, i64_w, i32_w]; rfl
         refine q_p 15 (some 94) (bz 25 65535) (any_of HT_.out (by kernel_rfl)) (v := ?_) ?_ (a' := ?_) ?_ ?_; rotate_left 2
         ·intro w'; go_simp; with_reducible rfl
         ·simp only [Act.put, List.setIfInBounds_toArray, List.set_cons_zero, List.set_cons_succ, i64_w, i32_w]; rfl
         refine q_o 16 (some 95) (bz 25 131071) (any_of HT_.out (by kernel_rfl)) (a' := ?_) ?_ ?_; rotate_left
         ·simp only [Act.put, List.setIfInBounds_toArray, List.set_cons_zero, List.set_cons_succ, i64_w, i32_w]; rfl
         refine q_o 17 (some 96) (bz 25 262143) (any_of HT_.out (by kernel_rfl)) (a' := ?_) ?_ ?_; rotate_left
         ·simp only [Act.put, List.setIfInBounds_toArray, List.set_cons_zero, List.set_cons_succ, i64_w, i32_w]; rfl
         refine q_o 18 (some 97) (bz 25 524287) (any_of HT_.out (by kernel_rfl)) (a' := ?_) ?_ ?_; rotate_left
         ·simp only [Act.put, List.setIfInBounds_toArray, List.set_cons_zero, List.set_cons_succ, i64_w, i32_w]; rfl
         refine q_o 19 (some 98) (bz 25 1048575) (any_of HT_.out (by kernel_rfl)) (a' := ?_) ?_ ?_; rotate_left
         ·simp only [Act.put, List.setIfInBounds_toArray, List.set_cons_zero, List.set_cons_succ, i64_w, i32_w]; rfl
         refine q_o 20 (some 99) (bz 25 2097151) (any_of HT_.out (by kernel_rfl)) (a' := ?_) ?_ ?_; rotate_left
         ·simp only [Act.put, List.setIfInBounds_toArray, List.set_cons_zero, List.set_cons_succ, i64_w, i32_w]; rfl
         refine q_p 21 (some 100) (bz 25 4194303) (any_of HT_.out (by kernel_rfl)) (v := ?_) ?_ (a' := ?_) ?_ ?_; rotate_left 2
         ·intro w'; go_simp; with_reducible rfl
         ·simp only [Act.put, List.setIfInBounds_toArray, List.set_cons_zero, List.set_cons_succ, i64_w, i32_w]; rfl
         refine q_p 22 (some 101) (bz 25 8388607) (any_of HT_.out (by kernel_rfl)) (v := ?_) ?_ (a' := ?_) ?_ ?_; rotate_left 2
         ·intro w'; go_simp; with_reducible rfl
         ·simp only [Act.put, List.setIfInBounds_toArray, List.set_cons_zero, List.set_cons_succ, i64_w, i32_w]; rfl
         refine q_p 23 (some 102) (bz 25 16777215) (any_of HT_.out (by kernel_rfl)) (v := ?_) ?_ (a' := ?_) ?_ ?_; rotate_left 2
         ·intro w'; go_simp; with_reducible rfl
         ·simp only [Act.put, List.setIfInBounds_toArray, List.set_cons_zero, List.set_cons_succ, i64_w, i32_w]; rfl
         refine q_p 24 (some 6) (bz 25 33554431) (any_of HT_.out (by kernel_rfl)) (v := ?_) ?_ (a' := ?_) ?_ ?_; rotate_left 2
         ·intro w'; go_simp; with_reducible rfl
         ·simp only [Act.put, List.setIfInBounds_toArray, List.set_cons_zero, List.set_cons_succ, i64_w, i32_w]; rfl
         refine done_ (done_of HT_.out (by kernel_rfl)) ?_
         try go_wp2
         go_ret
         exact ⟨by first | rfl | (simp [errW_none, errW_some] <;> rfl) | (simp [*, errW_none, errW_some] <;> rfl), by exact s_b HB.out⟩
        ·rw [if_neg c147] at H
         have c147b0 : (t756 == false) = false := by simpa using c147
         (try (have c147b1 : decide (t756 = false) = false := by simpa using c147))
         (try (have c147b2 : (t756 == false) = false := by simpa using c147))
         (try (have c147b3 : ¬ (t756 = false) := by simpa using c147))
         clear c147
         exact absurd H (by simp)
      ·replace c133 := Bool.eq_false_iff.mpr c133
       subst c133
       (try rw [if_neg (show ¬ (false = true) by decide)] at H)
       by_cases c159 : (t756 == false) = true
       ·rw [if_pos c159] at H
        have c159b0 : (t756 == false) = true := c159
        (try (have c159b1 : decide (t756 = false) = true := by simpa using c159))
        (try (have c159b2 : (t756 == false) = true := by simpa using c159))
        clear c159
        clear H
        try go_wp2
        replace HO_754009 := s_a (Kd.V_drew HO_754009.out)
        replace HO_754010 := s_a (Kd.V_drew HO_754010.out)
        replace HO_754011 := s_a (Kd.V_drew HO_754011.out)
        replace HO_754012 := s_a (Kd.V_drew HO_754012.out)
        replace HO_754016 := s_a (Kd.V_drew HO_754016.out)
        replace HO_754017 := s_a (Kd.V_drew HO_754017.out)
        replace HO_754021 := s_a (Kd.V_drew HO_754021.out)
        replace HO_754022 := s_a (Kd.V_drew HO_754022.out)
        replace BK753 := s_a (blk_drew BK753.out)
        replace HB := s_a (below_drew1 HB.out)
        refine start_ (n := 25) (S := fun w' => w'.cell? ⟨gb753, 0, none⟩ = some (.string x754000_1) ∧ w'.cell? ⟨gb753, 1, none⟩ = some (.string x754001_1) ∧ w'.cell? ⟨gb753, 2, none⟩ = some (.string x754002_1) ∧ w'.cell? ⟨gb753, 3, none⟩ = some (.int .i64 x754003_1) ∧ w'.cell? ⟨gb753, 4, none⟩ = some (.int .i64 x754004_1) ∧ w'.cell? ⟨gb753, 5, none⟩ = some (.int .i64 x754005_1) ∧ w'.cell? ⟨gb753, 6, none⟩ = some (.int .i64 x754006_1) ∧ w'.cell? ⟨gb753, 7, none⟩ = some (.bool false) ∧ w'.cell? ⟨gb753, 8, none⟩ = some (.int .i64 x754008_1) ∧ w'.cell? ⟨gb753, 9, none⟩ = some (u754009) ∧ w'.cell? ⟨gb753, 10, none⟩ = some (u754010) ∧ w'.cell? ⟨gb753, 11, none⟩ = some (u754011) ∧ w'.cell? ⟨gb753, 12, none⟩ = some (u754012) ∧ w'.cell? ⟨gb753, 13, none⟩ = some (.int .i64 x754013_1) ∧ w'.cell? ⟨gb753, 14, none⟩ = some (.int .i64 x754014_1) ∧ w'.cell? ⟨gb753, 15, none⟩ = some (.string x754015_1) ∧ w'.cell? ⟨gb753, 16, none⟩ = some (u754016) ∧ w'.cell? ⟨gb753, 17, none⟩ = some (u754017) ∧ w'.cell? ⟨gb753, 18, none⟩ = some (.int .i64 x754018_1) ∧ w'.cell? ⟨gb753, 19, none⟩ = some (.int .i64 x754019_1) ∧ w'.cell? ⟨gb753, 20, none⟩ = some (.string x754020_1) ∧ w'.cell? ⟨gb753, 21, none⟩ = some (u754021) ∧ w'.cell? ⟨gb753, 22, none⟩ = some (u754022)) (ds := []) (bz 25 0) (by kernel_rfl) rfl rfl ⟨s_x BK753.out 0, s_x BK753.out 1, s_x BK753.out 2, s_x BK753.out 3, s_x BK753.out 4, s_x BK753.out 5, s_x BK753.out 6, s_x BK753.out 7, s_x BK753.out 8, s_x BK753.out 9, s_x BK753.out 10, s_x BK753.out 11, s_x BK753.out 12, s_x BK753.out 13, s_x BK753.out 14, s_x BK753.out 15, s_x BK753.out 16, s_x BK753.out 17, s_x BK753.out 18, s_x BK753.out 19, s_x BK753.out 20, s_x BK753.out 21, s_x BK753.out 22⟩ (fun hHeld => ?_); refine with_tabW orchestratorlaw21_DeletionOnce.tab15 orchestratorlaw21_DeletionOnce.bits15 (fun HT_ HW_ => ?_)
        generalize wr.drew = w160 at HO_754009 HO_754010 HO_754011 HO_754012 HO_754016 HO_754017 HO_754021 HO_754022 BK753 HB hHeld ⊢
        refine one_ (i := 0) (N := some 79) (bz 25 1) rfl rfl (one_of HT_.out (by kernel_rfl)) (by decide) (fun K hK => ?_)
        refine goes_ Try.func10 (by kernel_rfl) rfl #[] (by rfl) rfl rfl (by (try simp only [List.map_toArray, List.map_cons, List.map_nil]); first | done | rfl | (simp only [List.length_drop, List.length_take]; rfl)) ?_
        with_reducible refine (orchestratorlaw21_lives.calls k1   _ A130.out).mono ?_
        rintro e w161 ⟨rfl, hb⟩
        refine ⟨_, rfl, ?_⟩
        replace HO_754009 := s_a (Kd.V_below (by exact s_V (HO_754009.out)) hb)
        replace HO_754010 := s_a (Kd.V_below (by exact s_V (HO_754010.out)) hb)
        replace HO_754011 := s_a (Kd.V_below (by exact s_V (HO_754011.out)) hb)
        replace HO_754012 := s_a (Kd.V_below (by exact s_V (HO_754012.out)) hb)
        replace HO_754016 := s_a (Kd.V_below (by exact s_V (HO_754016.out)) hb)
        replace HO_754017 := s_a (Kd.V_below (by exact s_V (HO_754017.out)) hb)
        replace HO_754021 := s_a (Kd.V_below (by exact s_V (HO_754021.out)) hb)
        replace HO_754022 := s_a (Kd.V_below (by exact s_V (HO_754022.out)) hb)
        replace BK753 := s_a (blk_below (s_k BK753.out) hb)
        replace HB := s_a (below_step (by exact s_b HB.out) hb)
        (try clear hb)
        obtain ⟨Ao162, co162, eo162⟩ := Kd.V_slice HO_754009.out
        (first | subst eo162 | (injection eo162 with f1_ f2_ f3_; have f4_ := f1_.symm; have f5_ := f3_.symm; clear f1_ f2_ f3_; subst f4_; subst f5_))
        obtain ⟨Ao163, co163, eo163⟩ := Kd.V_slice HO_754010.out
        (first | subst eo163 | (injection eo163 with f1_ f2_ f3_; have f4_ := f1_.symm; have f5_ := f3_.symm; clear f1_ f2_ f3_; subst f4_; subst f5_))
        obtain ⟨Ao164, co164, eo164⟩ := Kd.V_slice HO_754011.out
        (first | subst eo164 | (injection eo164 with f1_ f2_ f3_; have f4_ := f1_.symm; have f5_ := f3_.symm; clear f1_ f2_ f3_; subst f4_; subst f5_))
        obtain ⟨Ao165, co165, eo165⟩ := Kd.V_slice HO_754012.out
        (first | subst eo165 | (injection eo165 with f1_ f2_ f3_; have f4_ := f1_.symm; have f5_ := f3_.symm; clear f1_ f2_ f3_; subst f4_; subst f5_))
        obtain ⟨Ao166, co166, eo166⟩ := Kd.V_slice HO_754016.out
        (first | subst eo166 | (injection eo166 with f1_ f2_ f3_; have f4_ := f1_.symm; have f5_ := f3_.symm; clear f1_ f2_ f3_; subst f4_; subst f5_))
        obtain ⟨Ao167, co167, eo167⟩ := Kd.V_slice HO_754017.out
        (first | subst eo167 | (injection eo167 with f1_ f2_ f3_; have f4_ := f1_.symm; have f5_ := f3_.symm; clear f1_ f2_ f3_; subst f4_; subst f5_))
        obtain ⟨Ao168, co168, eo168⟩ := Kd.V_slice HO_754021.out
        (first | subst eo168 | (injection eo168 with f1_ f2_ f3_; have f4_ := f1_.symm; have f5_ := f3_.symm; clear f1_ f2_ f3_; subst f4_; subst f5_))
        obtain ⟨Ao169, co169, eo169⟩ := Kd.V_slice HO_754022.out
        (first | subst eo169 | (injection eo169 with f1_ f2_ f3_; have f4_ := f1_.symm; have f5_ := f3_.symm; clear f1_ f2_ f3_; subst f4_; subst f5_))
        refine hK.out _ _ ⟨s_x BK753.out 0, s_x BK753.out 1, s_x BK753.out 2, s_x BK753.out 3, s_x BK753.out 4, s_x BK753.out 5, s_x BK753.out 6, s_x BK753.out 7, s_x BK753.out 8, s_x BK753.out 9, s_x BK753.out 10, s_x BK753.out 11, s_x BK753.out 12, s_x BK753.out 13, s_x BK753.out 14, s_x BK753.out 15, s_x BK753.out 16, s_x BK753.out 17, s_x BK753.out 18, s_x BK753.out 19, s_x BK753.out 20, s_x BK753.out 21, s_x BK753.out 22⟩ (fun hHeld => ?_)
        clear hK K
        refine norm_ (a' := ?_) ?_ ?_
        rotate_left
        ·show Act.put _ (some 79) _ = _
         simp only [Act.put, List.setIfInBounds_toArray, List.set_cons_zero, List.set_cons_succ, i64_w, i32_w]
         rfl
        refine q_p 1 (some 80) (bz 25 3) (any_of HT_.out (by kernel_rfl)) (v := ?_) ?_ (a' := ?_) ?_ ?_; rotate_left 2
        ·intro w'; go_simp; with_reducible rfl
        ·simp only [Act.put, List.setIfInBounds_toArray, List.set_cons_zero, List.set_cons_succ, i64_w, i32_w]; rfl
        refine q_p 3 (some 82) (bz 25 11) (any_of HT_.out (by kernel_rfl)) (v := ?_) ?_ (a' := ?_) ?_ ?_; rotate_left 2
        ·intro w'; go_simp; with_reducible rfl
        ·simp only [Act.put, List.setIfInBounds_toArray, List.set_cons_zero, List.set_cons_succ, i64_w, i32_w]; rfl
        refine q_p 5 (some 84) (bz 25 43) (any_of HT_.out (by kernel_rfl)) (v := ?_) ?_ (a' := ?_) ?_ ?_; rotate_left 2
        ·intro w'; go_simp; with_reducible rfl
        ·simp only [Act.put, List.setIfInBounds_toArray, List.set_cons_zero, List.set_cons_succ, i64_w, i32_w]; rfl
        refine q_p 6 (some 85) (bz 25 107) (any_of HT_.out (by kernel_rfl)) (v := ?_) ?_ (a' := ?_) ?_ ?_; rotate_left 2
        ·intro w'; go_simp; with_reducible rfl
        ·simp only [Act.put, List.setIfInBounds_toArray, List.set_cons_zero, List.set_cons_succ, i64_w, i32_w]; rfl
        refine q_t 2 (some 81) (bz 25 111) (take_ofW HT_.out HW_.out (by kernel_rfl)) hHeld (v := ?_) ?_ (a' := ?_) ?_ ?_; rotate_left 2
        ·rintro w' ⟨s0, s1, s2, s3, s4, s5, s6, s7, s8, s9, s10, s11, s12, s13, s14, s15, s16, s17, s18, s19, s20, s21, s22⟩; (refine (s_ld rfl 33 (.tmp 3) ?_ _ ?_ _ _ (cells_at s0 (s_cc s1 (s_cc s2 (s_cc s3 (s_cc s4 (s_cc s5 (s_cc s6 (s_cc s7 (s_cc s8 (s_cc s9 (s_cc s10 (s_cc s11 (s_cc s12 (s_cc s13 (s_cc s14 (s_cc s15 (s_cc s16 (s_cc s17 (s_cc s18 (s_cc s19 (s_cc s20 (s_cc s21 (s_cc s22 s_cn))))))))))))))))))))))) Try.underlying33 (by rfl) sz33).trans ?_ <;> first | (with_reducible rfl) | rfl)
        ·simp only [Act.put, List.setIfInBounds_toArray, List.set_cons_zero, List.set_cons_succ, i64_w, i32_w]; rfl
        refine q_t 7 (some 86) (bz 25 239) (take_ofW HT_.out HW_.out (by kernel_rfl)) hHeld (v := ?_) ?_ (a' := ?_) ?_ ?_; rotate_left 2
        ·rintro w' ⟨s0, s1, s2, s3, s4, s5, s6, s7, s8, s9, s10, s11, s12, s13, s14, s15, s16, s17, s18, s19, s20, s21, s22⟩; go_simp; with_reducible rfl
        ·simp only [Act.put, List.setIfInBounds_toArray, List.set_cons_zero, List.set_cons_succ, i64_w, i32_w]; rfl
        refine one_ (i := 4) (N := some 83) (bz 25 255) rfl rfl (one_of HT_.out (by kernel_rfl)) (by decide) (fun K hK => ?_)
        refine goes_ Try.func14 (by kernel_rfl) rfl #[.agg #[.string x754000_1, .string x754001_1, .string x754002_1, .int .i64 x754003_1, .int .i64 x754004_1, .int .i64 x754005_1, .int .i64 x754006_1, .bool false, .int .i64 x754008_1, .slice Ao162 x754009_1.length co162, .slice Ao163 x754010_1.length co163, .slice Ao164 x754011_1.length co164, .slice Ao165 x754012_1.length co165, .int .i64 x754013_1, .int .i64 x754014_1, .string x754015_1, .slice Ao166 x754016_1.length co166, .slice Ao167 x754017_1.length co167, .int .i64 x754018_1, .int .i64 x754019_1, .string x754020_1, .slice Ao168 x754021_1.length co168, .slice Ao169 x754022_1.length co169], .int .i64 a2] (by rfl) rfl rfl (by (try simp only [List.map_toArray, List.map_cons, List.map_nil]); first | done | rfl | (simp only [List.length_drop, List.length_take]; rfl)) ?_
        with_reducible refine (deletion_Due.calls _ _ _ _ _ _ _ _ _ _ _ _ _ _ _ _ _ _ _ _ _ _ _ _ _ _ _ _ _ _ _ _ _ _ _ _ _ _ _ _ _ _ ?side1 ?side2 ?side3 ?side4 ?side5 ?side6 ?side7 ?side8 ?side9 ?side10 ?side11 ?side12 ?side13 ?side14 ?side15 ?side16 A132.out).mono ?_
        (case side1 => exact s_C (Kd.V_reads' HO_754009.out).2.2)
        (case side2 => exact (Kd.V_reads' HO_754009.out).2.1)
        (case side3 => exact s_C (Kd.V_reads' HO_754010.out).2.2)
        (case side4 => exact (Kd.V_reads' HO_754010.out).2.1)
        (case side5 => exact s_C (Kd.V_reads' HO_754011.out).2.2)
        (case side6 => exact (Kd.V_reads' HO_754011.out).2.1)
        (case side7 => exact s_C (Kd.V_reads' HO_754012.out).2.2)
        (case side8 => exact (Kd.V_reads' HO_754012.out).2.1)
        (case side9 => exact s_C (Kd.V_reads' HO_754016.out).2.2)
        (case side10 => exact (Kd.V_reads' HO_754016.out).2.1)
        (case side11 => exact s_C (Kd.V_reads' HO_754017.out).2.2)
        (case side12 => exact (Kd.V_reads' HO_754017.out).2.1)
        (case side13 => exact s_C (Kd.V_reads' HO_754021.out).2.2)
        (case side14 => exact (Kd.V_reads' HO_754021.out).2.1)
        (case side15 => exact s_C (Kd.V_reads' HO_754022.out).2.2)
        (case side16 => exact (Kd.V_reads' HO_754022.out).2.1)
        rintro e w170 ⟨rfl, hb⟩
        refine ⟨_, rfl, ?_⟩
        replace BK753 := s_a (blk_below (s_k BK753.out) hb)
        replace HB := s_a (below_step (by exact s_b HB.out) hb)
        (try clear hb)
        refine hK.out _ _ ⟨s_x BK753.out 0, s_x BK753.out 1, s_x BK753.out 2, s_x BK753.out 3, s_x BK753.out 4, s_x BK753.out 5, s_x BK753.out 6, s_x BK753.out 7, s_x BK753.out 8, s_x BK753.out 9, s_x BK753.out 10, s_x BK753.out 11, s_x BK753.out 12, s_x BK753.out 13, s_x BK753.out 14, s_x BK753.out 15, s_x BK753.out 16, s_x BK753.out 17, s_x BK753.out 18, s_x BK753.out 19, s_x BK753.out 20, s_x BK753.out 21, s_x BK753.out 22⟩ (fun hHeld => ?_)
        clear hK K
        refine norm_ (a' := ?_) ?_ ?_
        rotate_left
        ·show Act.put _ (some 83) _ = _
         simp only [Act.put, List.setIfInBounds_toArray, List.set_cons_zero, List.set_cons_succ, i64_w, i32_w]
         rfl
        refine q_p 8 (some 87) (bz 25 511) (any_of HT_.out (by kernel_rfl)) (v := ?_) ?_ (a' := ?_) ?_ ?_; rotate_left 2
        ·intro w'; go_simp; with_reducible rfl
        ·simp only [Act.put, List.setIfInBounds_toArray, List.set_cons_zero, List.set_cons_succ, i64_w, i32_w]; rfl
        refine q_o 9 (some 88) (bz 25 1023) (any_of HT_.out (by kernel_rfl)) (a' := ?_) ?_ ?_; rotate_left
        ·simp only [Act.put, List.setIfInBounds_toArray, List.set_cons_zero, List.set_cons_succ, i64_w, i32_w]; rfl
        refine q_o 10 (some 89) (bz 25 2047) (any_of HT_.out (by kernel_rfl)) (a' := ?_) ?_ ?_; rotate_left
        ·simp only [Act.put, List.setIfInBounds_toArray, List.set_cons_zero, List.set_cons_succ, i64_w, i32_w]; rfl
        refine q_o 11 (some 90) (bz 25 4095) (any_of HT_.out (by kernel_rfl)) (a' := ?_) ?_ ?_; rotate_left
        ·simp only [Act.put, List.setIfInBounds_toArray, List.set_cons_zero, List.set_cons_succ, i64_w, i32_w]; rfl
        refine q_o 12 (some 91) (bz 25 8191) (any_of HT_.out (by kernel_rfl)) (a' := ?_) ?_ ?_; rotate_left
        ·simp only [Act.put, List.setIfInBounds_toArray, List.set_cons_zero, List.set_cons_succ, i64_w, i32_w]; rfl
        refine q_o 13 (some 92) (bz 25 16383) (any_of HT_.out (by kernel_rfl)) (a' := ?_) ?_ ?_; rotate_left
        ·simp only [Act.put, List.setIfInBounds_toArray, List.set_cons_zero, List.set_cons_succ, i64_w, i32_w]; rfl
        refine q_p 14 (some 93) (bz 25 32767) (any_of HT_.out (by kernel_rfl)) (v := ?_) ?_ (a' := ?_) ?_ ?_; rotate_left 2
        ·intro w'; go_simp; with_reducible rfl
        ·simp only [Act.put, List.setIfInBounds_toArray, List.set_cons_zero, List.set_cons_succ, i64_w, i32_w]; rfl
        refine q_p 15 (some 94) (bz 25 65535) (any_of HT_.out (by kernel_rfl)) (v := ?_) ?_ (a' := ?_) ?_ ?_; rotate_left 2
        ·intro w'; go_simp; with_reducible rfl
        ·simp only [Act.put, List.setIfInBounds_toArray, List.set_cons_zero, List.set_cons_succ, i64_w, i32_w]; rfl
        refine q_o 16 (some 95) (bz 25 131071) (any_of HT_.out (by kernel_rfl)) (a' := ?_) ?_ ?_; rotate_left
        ·simp only [Act.put, List.setIfInBounds_toArray, List.set_cons_zero, List.set_cons_succ, i64_w, i32_w]; rfl
        refine q_o 17 (some 96) (bz 25 262143) (any_of HT_.out (by kernel_rfl)) (a' := ?_) ?_ ?_; rotate_left
        ·simp only [Act.put, List.setIfInBounds_toArray, List.set_cons_zero, List.set_cons_succ, i64_w, i32_w]; rfl
        refine q_o 18 (some 97) (bz 25 524287) (any_of HT_.out (by kernel_rfl)) (a' := ?_) ?_ ?_; rotate_left
        ·simp only [Act.put, List.setIfInBounds_toArray, List.set_cons_zero, List.set_cons_succ, i64_w, i32_w]; rfl
        refine q_o 19 (some 98) (bz 25 1048575) (any_of HT_.out (by kernel_rfl)) (a' := ?_) ?_ ?_; rotate_left
        ·simp only [Act.put, List.setIfInBounds_toArray, List.set_cons_zero, List.set_cons_succ, i64_w, i32_w]; rfl
        refine q_o 20 (some 99) (bz 25 2097151) (any_of HT_.out (by kernel_rfl)) (a' := ?_) ?_ ?_; rotate_left
        ·simp only [Act.put, List.setIfInBounds_toArray, List.set_cons_zero, List.set_cons_succ, i64_w, i32_w]; rfl
        refine q_p 21 (some 100) (bz 25 4194303) (any_of HT_.out (by kernel_rfl)) (v := ?_) ?_ (a' := ?_) ?_ ?_; rotate_left 2
        ·intro w'; go_simp; with_reducible rfl
        ·simp only [Act.put, List.setIfInBounds_toArray, List.set_cons_zero, List.set_cons_succ, i64_w, i32_w]; rfl
        refine q_p 22 (some 101) (bz 25 8388607) (any_of HT_.out (by kernel_rfl)) (v := ?_) ?_ (a' := ?_) ?_ ?_; rotate_left 2
        ·intro w'; go_simp; with_reducible rfl
        ·simp only [Act.put, List.setIfInBounds_toArray, List.set_cons_zero, List.set_cons_succ, i64_w, i32_w]; rfl
        refine q_p 23 (some 102) (bz 25 16777215) (any_of HT_.out (by kernel_rfl)) (v := ?_) ?_ (a' := ?_) ?_ ?_; rotate_left 2
        ·intro w'; go_simp; with_reducible rfl
        ·simp only [Act.put, List.setIfInBounds_toArray, List.set_cons_zero, List.set_cons_succ, i64_w, i32_w]; rfl
        refine q_p 24 (some 6) (bz 25 33554431) (any_of HT_.out (by kernel_rfl)) (v := ?_) ?_ (a' := ?_) ?_ ?_; rotate_left 2
        ·intro w'; go_simp; with_reducible rfl
        ·simp only [Act.put, List.setIfInBounds_toArray, List.set_cons_zero, List.set_cons_succ, i64_w, i32_w]; rfl
        refine done_ (done_of HT_.out (by kernel_rfl)) ?_
        try go_wp2
        go_ret
        exact ⟨by first | rfl | (simp [errW_none, errW_some] <;> rfl) | (simp [*, errW_none, errW_some] <;> rfl), by exact s_b HB.out⟩
       ·rw [if_neg c159] at H
        have c159b0 : (t756 == false) = false := by simpa using c159
        (try (have c159b1 : decide (t756 = false) = false := by simpa using c159))
        (try (have c159b2 : (t756 == false) = false := by simpa using c159))
        (try (have c159b3 : ¬ (t756 = false) := by simpa using c159))
        clear c159
        exact absurd H (by simp)
     ·replace c131 := Bool.eq_false_iff.mpr c131
      subst c131
      (try rw [if_neg (show ¬ (false = true) by decide)] at H)
      exact absurd H (by simp)
end Go.Proofs.Ythkdpkgkejdcgaa.Q
