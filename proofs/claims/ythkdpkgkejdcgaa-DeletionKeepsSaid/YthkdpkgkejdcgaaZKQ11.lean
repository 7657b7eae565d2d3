/- Part of a claim: see its row. Conditions: stated at each. -/
import Derived.Test.YthkdpkgkejdcgaaZKQ0
import Derived.Test.YthkdpkgkejdcgaaZKQ1
import Derived.Test.YthkdpkgkejdcgaaZKQ2
import Derived.Test.YthkdpkgkejdcgaaZKQ10
namespace Go.Proofs.Ythkdpkgkejdcgaa.Q
open Go.RowKit Go.Proofs.YthkdpkgkejdcgaaW.PrintWords Go.Proofs.YthkdpkgkejdcgaaW.PrintLast Go.Proofs.YthkdpkgkejdcgaaW.PrintMore Go.Proofs.Ythkdpkgkejdcgaa.Sh
attribute [local go_sem] max2_int min2_int max_two min_two max_three min_three max_four min_four
set_option linter.unusedVariables false
set_option linter.unusedSimpArgs false
attribute [local go_sem high] eqA59 eqA62
mutual
def orchestratorref21_SameMeta.j0 : Nat → Bool → ByteArray → ByteArray → ByteArray → Int → Int → Int → Int → Bool → Int → List (S59) → List (S62) → List ByteArray → List (S66) → ByteArray → ByteArray → ByteArray → Int → Int → Int → Int → Bool → Int → List (S59) → List (S62) → List ByteArray → List (S66) → Option (Bool)
 | 0, _, _, _, _, _, _, _, _, _, _, _, _, _, _, _, _, _, _, _, _, _, _, _, _, _, _, _ => none
 | k + 1, x68, x545000, x545001, x545002, x545003, x545004, x545005, x545006, x545007, x545008, x545009, x545010, x545011, x545012, x546000, x546001, x546002, x546003, x546004, x546005, x546006, x546007, x546008, x546009, x546010, x546011, x546012 => if x68 = true then (some false) else (if (x545009.length : Int) = (x546009.length : Int) then (if (x545010.length : Int) = (x546010.length : Int) then ((orchestratorref21_Strings.f k x545011 x546011).bind fun t546 => (if t546 = true then (orchestratorref21_SameMeta.j1 k ((x545012.length : Int) != (x546012.length : Int)) x545000 x545001 x545002 x545003 x545004 x545005 x545006 x545007 x545008 x545009 x545010 x545011 x545012 x546000 x546001 x546002 x546003 x546004 x546005 x546006 x546007 x546008 x546009 x546010 x546011 x546012) else (orchestratorref21_SameMeta.j1 k true x545000 x545001 x545002 x545003 x545004 x545005 x545006 x545007 x545008 x545009 x545010 x545011 x545012 x546000 x546001 x546002 x546003 x546004 x546005 x546006 x546007 x546008 x546009 x546010 x546011 x546012))) else (orchestratorref21_SameMeta.j1 k true x545000 x545001 x545002 x545003 x545004 x545005 x545006 x545007 x545008 x545009 x545010 x545011 x545012 x546000 x546001 x546002 x546003 x546004 x546005 x546006 x546007 x546008 x546009 x546010 x546011 x546012)) else (orchestratorref21_SameMeta.j1 k true x545000 x545001 x545002 x545003 x545004 x545005 x545006 x545007 x545008 x545009 x545010 x545011 x545012 x546000 x546001 x546002 x546003 x546004 x546005 x546006 x546007 x546008 x546009 x546010 x546011 x546012))
def orchestratorref21_SameMeta.j1 : Nat → Bool → ByteArray → ByteArray → ByteArray → Int → Int → Int → Int → Bool → Int → List (S59) → List (S62) → List ByteArray → List (S66) → ByteArray → ByteArray → ByteArray → Int → Int → Int → Int → Bool → Int → List (S59) → List (S62) → List ByteArray → List (S66) → Option (Bool)
 | 0, _, _, _, _, _, _, _, _, _, _, _, _, _, _, _, _, _, _, _, _, _, _, _, _, _, _, _ => none
 | k + 1, x101, x545000, x545001, x545002, x545003, x545004, x545005, x545006, x545007, x545008, x545009, x545010, x545011, x545012, x546000, x546001, x546002, x546003, x546004, x546005, x546006, x546007, x546008, x546009, x546010, x546011, x546012 => if x101 = true then (some false) else (orchestratorref21_SameMeta.l0 k 0 x545000 x545001 x545002 x545003 x545004 x545005 x545006 x545007 x545008 x545009 x545010 x545011 x545012 x546000 x546001 x546002 x546003 x546004 x546005 x546006 x546007 x546008 x546009 x546010 x546011 x546012)
def orchestratorref21_SameMeta.l0 : Nat → Int → ByteArray → ByteArray → ByteArray → Int → Int → Int → Int → Bool → Int → List (S59) → List (S62) → List ByteArray → List (S66) → ByteArray → ByteArray → ByteArray → Int → Int → Int → Int → Bool → Int → List (S59) → List (S62) → List ByteArray → List (S66) → Option (Bool)
 | 0, _, _, _, _, _, _, _, _, _, _, _, _, _, _, _, _, _, _, _, _, _, _, _, _, _, _, _ => none
 | k + 1, x5, x545000, x545001, x545002, x545003, x545004, x545005, x545006, x545007, x545008, x545009, x545010, x545011, x545012, x546000, x546001, x546002, x546003, x546004, x546005, x546006, x546007, x546008, x546009, x546010, x546011, x546012 => if x5 < (x545009.length : Int) then (if 0 ≤ x5 then (if x5 < (x546009.length : Int) then (if (!((((rd_T59 x545009 x5).f0).toList) == (((rd_T59 x546009 x5).f0).toList)) || (!((((rd_T59 x545009 x5).f1).toList) == (((rd_T59 x546009 x5).f1).toList)))) = true then (some false) else (orchestratorref21_SameMeta.l0 k (wrap64 (x5 + 1)) x545000 x545001 x545002 x545003 x545004 x545005 x545006 x545007 x545008 x545009 x545010 x545011 x545012 x546000 x546001 x546002 x546003 x546004 x546005 x546006 x546007 x546008 x546009 x546010 x546011 x546012)) else (none)) else (none)) else (orchestratorref21_SameMeta.l1 k 0 x545000 x545001 x545002 x545003 x545004 x545005 x545006 x545007 x545008 x545009 x545010 x545011 x545012 x546000 x546001 x546002 x546003 x546004 x546005 x546006 x546007 x546008 x546009 x546010 x546011 x546012)
def orchestratorref21_SameMeta.l1 : Nat → Int → ByteArray → ByteArray → ByteArray → Int → Int → Int → Int → Bool → Int → List (S59) → List (S62) → List ByteArray → List (S66) → ByteArray → ByteArray → ByteArray → Int → Int → Int → Int → Bool → Int → List (S59) → List (S62) → List ByteArray → List (S66) → Option (Bool)
 | 0, _, _, _, _, _, _, _, _, _, _, _, _, _, _, _, _, _, _, _, _, _, _, _, _, _, _, _ => none
 | k + 1, x6, x545000, x545001, x545002, x545003, x545004, x545005, x545006, x545007, x545008, x545009, x545010, x545011, x545012, x546000, x546001, x546002, x546003, x546004, x546005, x546006, x546007, x546008, x546009, x546010, x546011, x546012 => if x6 < (x545010.length : Int) then (if 0 ≤ x6 then (if x6 < (x546010.length : Int) then (if (!((((rd_T62 x545010 x6).f0).toList) == (((rd_T62 x546010 x6).f0).toList)) || (!((((rd_T62 x545010 x6).f1).toList) == (((rd_T62 x546010 x6).f1).toList)) || (!(((rd_T62 x545010 x6).f2) == ((rd_T62 x546010 x6).f2)) || (!(((rd_T62 x545010 x6).f3) == ((rd_T62 x546010 x6).f3)) || (!(((rd_T62 x545010 x6).f4) == ((rd_T62 x546010 x6).f4))))))) = true then (some false) else (orchestratorref21_SameMeta.l1 k (wrap64 (x6 + 1)) x545000 x545001 x545002 x545003 x545004 x545005 x545006 x545007 x545008 x545009 x545010 x545011 x545012 x546000 x546001 x546002 x546003 x546004 x546005 x546006 x546007 x546008 x546009 x546010 x546011 x546012)) else (none)) else (none)) else (orchestratorref21_SameMeta.l2 k 0 x545000 x545001 x545002 x545003 x545004 x545005 x545006 x545007 x545008 x545009 x545010 x545011 x545012 x546000 x546001 x546002 x546003 x546004 x546005 x546006 x546007 x546008 x546009 x546010 x546011 x546012)
def orchestratorref21_SameMeta.l2 : Nat → Int → ByteArray → ByteArray → ByteArray → Int → Int → Int → Int → Bool → Int → List (S59) → List (S62) → List ByteArray → List (S66) → ByteArray → ByteArray → ByteArray → Int → Int → Int → Int → Bool → Int → List (S59) → List (S62) → List ByteArray → List (S66) → Option (Bool)
 | 0, _, _, _, _, _, _, _, _, _, _, _, _, _, _, _, _, _, _, _, _, _, _, _, _, _, _, _ => none
 | k + 1, x7, x545000, x545001, x545002, x545003, x545004, x545005, x545006, x545007, x545008, x545009, x545010, x545011, x545012, x546000, x546001, x546002, x546003, x546004, x546005, x546006, x546007, x546008, x546009, x546010, x546011, x546012 => if x7 < (x545012.length : Int) then (if 0 ≤ x7 then (if x7 < (x546012.length : Int) then (if ((rd_T66 x545012 x7).f0).toList = ((rd_T66 x546012 x7).f0).toList then ((orchestratorref21_Strings.f k ((rd_T66 x545012 x7).f1) ((rd_T66 x546012 x7).f1)).bind fun t555 => (if t555 = true then (orchestratorref21_SameMeta.l2 k (wrap64 (x7 + 1)) x545000 x545001 x545002 x545003 x545004 x545005 x545006 x545007 x545008 x545009 x545010 x545011 x545012 x546000 x546001 x546002 x546003 x546004 x546005 x546006 x546007 x546008 x546009 x546010 x546011 x546012) else (some false))) else (some false)) else (none)) else (none)) else (some true)
end
def orchestratorref21_SameMeta.f (k : Nat) (a0_0 : ByteArray) (a0_1 : ByteArray) (a0_2 : ByteArray) (a0_3 : Int) (a0_4 : Int) (a0_5 : Int) (a0_6 : Int) (a0_7 : Bool) (a0_8 : Int) (l0_9 : List (S59)) (l0_10 : List (S62)) (l0_11 : List ByteArray) (l0_12 : List (S66)) (a1_0 : ByteArray) (a1_1 : ByteArray) (a1_2 : ByteArray) (a1_3 : Int) (a1_4 : Int) (a1_5 : Int) (a1_6 : Int) (a1_7 : Bool) (a1_8 : Int) (l1_9 : List (S59)) (l1_10 : List (S62)) (l1_11 : List ByteArray) (l1_12 : List (S66)) : Option (Bool) := if a0_0.toList = a1_0.toList then (if a0_1.toList = a1_1.toList then (if a0_2.toList = a1_2.toList then (if a0_3 = a1_3 then (if a0_4 = a1_4 then (if a0_5 = a1_5 then (if a0_6 = a1_6 then (if (a0_7 != a1_7) = true then (orchestratorref21_SameMeta.j0 k true a0_0 a0_1 a0_2 a0_3 a0_4 a0_5 a0_6 a0_7 a0_8 l0_9 l0_10 l0_11 l0_12 a1_0 a1_1 a1_2 a1_3 a1_4 a1_5 a1_6 a1_7 a1_8 l1_9 l1_10 l1_11 l1_12) else (orchestratorref21_SameMeta.j0 k (a0_8 != a1_8) a0_0 a0_1 a0_2 a0_3 a0_4 a0_5 a0_6 a0_7 a0_8 l0_9 l0_10 l0_11 l0_12 a1_0 a1_1 a1_2 a1_3 a1_4 a1_5 a1_6 a1_7 a1_8 l1_9 l1_10 l1_11 l1_12)) else (orchestratorref21_SameMeta.j0 k true a0_0 a0_1 a0_2 a0_3 a0_4 a0_5 a0_6 a0_7 a0_8 l0_9 l0_10 l0_11 l0_12 a1_0 a1_1 a1_2 a1_3 a1_4 a1_5 a1_6 a1_7 a1_8 l1_9 l1_10 l1_11 l1_12)) else (orchestratorref21_SameMeta.j0 k true a0_0 a0_1 a0_2 a0_3 a0_4 a0_5 a0_6 a0_7 a0_8 l0_9 l0_10 l0_11 l0_12 a1_0 a1_1 a1_2 a1_3 a1_4 a1_5 a1_6 a1_7 a1_8 l1_9 l1_10 l1_11 l1_12)) else (orchestratorref21_SameMeta.j0 k true a0_0 a0_1 a0_2 a0_3 a0_4 a0_5 a0_6 a0_7 a0_8 l0_9 l0_10 l0_11 l0_12 a1_0 a1_1 a1_2 a1_3 a1_4 a1_5 a1_6 a1_7 a1_8 l1_9 l1_10 l1_11 l1_12)) else (orchestratorref21_SameMeta.j0 k true a0_0 a0_1 a0_2 a0_3 a0_4 a0_5 a0_6 a0_7 a0_8 l0_9 l0_10 l0_11 l0_12 a1_0 a1_1 a1_2 a1_3 a1_4 a1_5 a1_6 a1_7 a1_8 l1_9 l1_10 l1_11 l1_12)) else (orchestratorref21_SameMeta.j0 k true a0_0 a0_1 a0_2 a0_3 a0_4 a0_5 a0_6 a0_7 a0_8 l0_9 l0_10 l0_11 l0_12 a1_0 a1_1 a1_2 a1_3 a1_4 a1_5 a1_6 a1_7 a1_8 l1_9 l1_10 l1_11 l1_12)) else (orchestratorref21_SameMeta.j0 k true a0_0 a0_1 a0_2 a0_3 a0_4 a0_5 a0_6 a0_7 a0_8 l0_9 l0_10 l0_11 l0_12 a1_0 a1_1 a1_2 a1_3 a1_4 a1_5 a1_6 a1_7 a1_8 l1_9 l1_10 l1_11 l1_12)) else (orchestratorref21_SameMeta.j0 k true a0_0 a0_1 a0_2 a0_3 a0_4 a0_5 a0_6 a0_7 a0_8 l0_9 l0_10 l0_11 l0_12 a1_0 a1_1 a1_2 a1_3 a1_4 a1_5 a1_6 a1_7 a1_8 l1_9 l1_10 l1_11 l1_12)
set_option maxHeartbeats 8000000 in
set_option maxRecDepth 100000 in
theorem orchestratorref21_SameMeta.calls (k : Nat) (a0_0 : ByteArray) (a0_1 : ByteArray) (a0_2 : ByteArray) (a0_3 : Int) (a0_4 : Int) (a0_5 : Int) (a0_6 : Int) (a0_7 : Bool) (a0_8 : Int) (A0_9 : Option Addr) (c0_9 : Nat) (l0_9 : List (S59)) (A0_10 : Option Addr) (c0_10 : Nat) (l0_10 : List (S62)) (A0_11 : Option Addr) (c0_11 : Nat) (l0_11 : List ByteArray) (A0_12 : Option Addr) (c0_12 : Nat) (l0_12 : List (S66)) (a1_0 : ByteArray) (a1_1 : ByteArray) (a1_2 : ByteArray) (a1_3 : Int) (a1_4 : Int) (a1_5 : Int) (a1_6 : Int) (a1_7 : Bool) (a1_8 : Int) (A1_9 : Option Addr) (c1_9 : Nat) (l1_9 : List (S59)) (A1_10 : Option Addr) (c1_10 : Nat) (l1_10 : List (S62)) (A1_11 : Option Addr) (c1_11 : Nat) (l1_11 : List ByteArray) (A1_12 : Option Addr) (c1_12 : Nat) (l1_12 : List (S66)) (r : Bool) (w : World) (hr0_9 : Kd.C k59 w A0_9 l0_9.length l0_9) (hc0_9 : l0_9.length ≤ c0_9) (hr0_10 : Kd.C k62 w A0_10 l0_10.length l0_10) (hc0_10 : l0_10.length ≤ c0_10) (hr0_11 : Kd.C Kd.string w A0_11 l0_11.length l0_11) (hc0_11 : l0_11.length ≤ c0_11) (hr0_12 : Kd.C k66 w A0_12 l0_12.length l0_12) (hc0_12 : l0_12.length ≤ c0_12) (hr1_9 : Kd.C k59 w A1_9 l1_9.length l1_9) (hc1_9 : l1_9.length ≤ c1_9) (hr1_10 : Kd.C k62 w A1_10 l1_10.length l1_10) (hc1_10 : l1_10.length ≤ c1_10) (hr1_11 : Kd.C Kd.string w A1_11 l1_11.length l1_11) (hc1_11 : l1_11.length ≤ c1_11) (hr1_12 : Kd.C k66 w A1_12 l1_12.length l1_12) (hc1_12 : l1_12.length ≤ c1_12) (h : orchestratorref21_SameMeta.f k a0_0 a0_1 a0_2 a0_3 a0_4 a0_5 a0_6 a0_7 a0_8 l0_9 l0_10 l0_11 l0_12 a1_0 a1_1 a1_2 a1_3 a1_4 a1_5 a1_6 a1_7 a1_8 l1_9 l1_10 l1_11 l1_12 = some r) :
  Calls Try.prog 21 #[.agg #[.string a0_0, .string a0_1, .string a0_2, .int .i64 a0_3, .int .i64 a0_4, .int .i64 a0_5, .int .i64 a0_6, .bool a0_7, .int .i64 a0_8, .slice A0_9 l0_9.length c0_9, .slice A0_10 l0_10.length c0_10, .slice A0_11 l0_11.length c0_11, .slice A0_12 l0_12.length c0_12], .agg #[.string a1_0, .string a1_1, .string a1_2, .int .i64 a1_3, .int .i64 a1_4, .int .i64 a1_5, .int .i64 a1_6, .bool a1_7, .int .i64 a1_8, .slice A1_9 l1_9.length c1_9, .slice A1_10 l1_10.length c1_10, .slice A1_11 l1_11.length c1_11, .slice A1_12 l1_12.length c1_12]] w fun e w' => e = .returned (.bool r) ∧ Below w.heap.size w w' := by
 have hu27 := Try.underlying27
 have hu59 := Try.underlying59
 have hu62 := Try.underlying62
 have HR0_9 := s_a hr0_9
 have HC0_9 := s_a hc0_9
 clear hr0_9 hc0_9
 have HR0_10 := s_a hr0_10
 have HC0_10 := s_a hc0_10
 clear hr0_10 hc0_10
 have HR0_11 := s_a hr0_11
 have HC0_11 := s_a hc0_11
 clear hr0_11 hc0_11
 have HR0_12 := s_a hr0_12
 have HC0_12 := s_a hc0_12
 clear hr0_12 hc0_12
 have HR1_9 := s_a hr1_9
 have HC1_9 := s_a hc1_9
 clear hr1_9 hc1_9
 have HR1_10 := s_a hr1_10
 have HC1_10 := s_a hc1_10
 clear hr1_10 hc1_10
 have HR1_11 := s_a hr1_11
 have HC1_11 := s_a hc1_11
 clear hr1_11 hc1_11
 have HR1_12 := s_a hr1_12
 have HC1_12 := s_a hc1_12
 clear hr1_12 hc1_12
 have HB := s_a (Below.refl w.heap.size w)
 have H := h; unfold orchestratorref21_SameMeta.f at H
 clear h
 have HC3 := s_a H
 clear H
 go_enter Try.func21, Try.ntmps21
 go_upto_region 1 with (first | ((with_reducible refine gate_dst (N := 2) rfl ?_); (try (refine gate_guard (by rfl) ?_; dsimp only)); refine box_event ?hg (N := 2) ?hd (cs := #[.string a0_0, .string a0_1, .string a0_2, .int .i64 a0_3, .int .i64 a0_4, .int .i64 a0_5, .int .i64 a0_6, .bool a0_7, .int .i64 a0_8, .slice A0_9 l0_9.length c0_9, .slice A0_10 l0_10.length c0_10, .slice A0_11 l0_11.length c0_11, .slice A0_12 l0_12.length c0_12]) (t := 27) ?hr ?_; (case hd => rfl); (case hg => rfl); (case hr => first | (go_simp; done) | (go_simp; rfl)); intro gb544 hg w4 hbox hb; have BK544 := s_a (hbox); have GW544 := s_a ((by rw [hg]; exact (below_size (by exact s_b HB.out)) : w.heap.size ≤ gb544)); have GE544 := s_a ((by rw [hg]; exact (below_size (by exact s_b HB.out)) : w.heap.size ≤ gb544)); replace HB := s_a (below_step (by exact s_b HB.out) hb); clear hb hbox hg) | ((with_reducible refine gate_dst (N := 3) rfl ?_); (try (refine gate_guard (by rfl) ?_; dsimp only)); refine box_event ?hg (N := 3) ?hd (cs := #[.string a1_0, .string a1_1, .string a1_2, .int .i64 a1_3, .int .i64 a1_4, .int .i64 a1_5, .int .i64 a1_6, .bool a1_7, .int .i64 a1_8, .slice A1_9 l1_9.length c1_9, .slice A1_10 l1_10.length c1_10, .slice A1_11 l1_11.length c1_11, .slice A1_12 l1_12.length c1_12]) (t := 27) ?hr ?_; (case hd => rfl); (case hg => rfl); (case hr => first | (go_simp; done) | (go_simp; rfl)); intro gb545 hg w5 hbox hb; have BK545 := s_a (hbox); have GW545 := s_a ((by rw [hg]; exact (below_size (by exact s_b HB.out)) : w.heap.size ≤ gb545)); have GE545 := s_a ((by rw [hg]; exact (below_size (by exact s_b HB.out)) : w.heap.size ≤ gb545)); have NB544_545 := s_a ((by rw [hg]; exact Nat.ne_of_lt (blk_lt (s_k BK544.out)) : gb544 ≠ gb545)); have NB545_544 := s_a ((by rw [hg]; exact Nat.ne_of_gt (blk_lt (s_k BK544.out)) : gb545 ≠ gb544)); replace BK544 := s_a (blk_below (s_k BK544.out) hb); replace HB := s_a (below_step (by exact s_b HB.out) hb); clear hb hbox hg))
 repeat (go_quiet (first | ((with_reducible refine gate_dst (N := 2) rfl ?_); (try (refine gate_guard (by rfl) ?_; dsimp only)); refine box_event ?hg (N := 2) ?hd (cs := #[.string a0_0, .string a0_1, .string a0_2, .int .i64 a0_3, .int .i64 a0_4, .int .i64 a0_5, .int .i64 a0_6, .bool a0_7, .int .i64 a0_8, .slice A0_9 l0_9.length c0_9, .slice A0_10 l0_10.length c0_10, .slice A0_11 l0_11.length c0_11, .slice A0_12 l0_12.length c0_12]) (t := 27) ?hr ?_; (case hd => rfl); (case hg => rfl); (case hr => first | (go_simp; done) | (go_simp; rfl)); intro gb544 hg w4 hbox hb; have BK544 := s_a (hbox); have GW544 := s_a ((by rw [hg]; exact (below_size (by exact s_b HB.out)) : w.heap.size ≤ gb544)); have GE544 := s_a ((by rw [hg]; exact (below_size (by exact s_b HB.out)) : w.heap.size ≤ gb544)); replace HB := s_a (below_step (by exact s_b HB.out) hb); clear hb hbox hg) | ((with_reducible refine gate_dst (N := 3) rfl ?_); (try (refine gate_guard (by rfl) ?_; dsimp only)); refine box_event ?hg (N := 3) ?hd (cs := #[.string a1_0, .string a1_1, .string a1_2, .int .i64 a1_3, .int .i64 a1_4, .int .i64 a1_5, .int .i64 a1_6, .bool a1_7, .int .i64 a1_8, .slice A1_9 l1_9.length c1_9, .slice A1_10 l1_10.length c1_10, .slice A1_11 l1_11.length c1_11, .slice A1_12 l1_12.length c1_12]) (t := 27) ?hr ?_; (case hd => rfl); (case hg => rfl); (case hr => first | (go_simp; done) | (go_simp; rfl)); intro gb545 hg w5 hbox hb; have BK545 := s_a (hbox); have GW545 := s_a ((by rw [hg]; exact (below_size (by exact s_b HB.out)) : w.heap.size ≤ gb545)); have GE545 := s_a ((by rw [hg]; exact (below_size (by exact s_b HB.out)) : w.heap.size ≤ gb545)); have NB544_545 := s_a ((by rw [hg]; exact Nat.ne_of_lt (blk_lt (s_k BK544.out)) : gb544 ≠ gb545)); have NB545_544 := s_a ((by rw [hg]; exact Nat.ne_of_gt (blk_lt (s_k BK544.out)) : gb545 ≠ gb544)); replace BK544 := s_a (blk_below (s_k BK544.out) hb); replace HB := s_a (below_step (by exact s_b HB.out) hb); clear hb hbox hg)); go_upto_region 1 with (first | ((with_reducible refine gate_dst (N := 2) rfl ?_); (try (refine gate_guard (by rfl) ?_; dsimp only)); refine box_event ?hg (N := 2) ?hd (cs := #[.string a0_0, .string a0_1, .string a0_2, .int .i64 a0_3, .int .i64 a0_4, .int .i64 a0_5, .int .i64 a0_6, .bool a0_7, .int .i64 a0_8, .slice A0_9 l0_9.length c0_9, .slice A0_10 l0_10.length c0_10, .slice A0_11 l0_11.length c0_11, .slice A0_12 l0_12.length c0_12]) (t := 27) ?hr ?_; (case hd => rfl); (case hg => rfl); (case hr => first | (go_simp; done) | (go_simp; rfl)); intro gb544 hg w4 hbox hb; have BK544 := s_a (hbox); have GW544 := s_a ((by rw [hg]; exact (below_size (by exact s_b HB.out)) : w.heap.size ≤ gb544)); have GE544 := s_a ((by rw [hg]; exact (below_size (by exact s_b HB.out)) : w.heap.size ≤ gb544)); replace HB := s_a (below_step (by exact s_b HB.out) hb); clear hb hbox hg) | ((with_reducible refine gate_dst (N := 3) rfl ?_); (try (refine gate_guard (by rfl) ?_; dsimp only)); refine box_event ?hg (N := 3) ?hd (cs := #[.string a1_0, .string a1_1, .string a1_2, .int .i64 a1_3, .int .i64 a1_4, .int .i64 a1_5, .int .i64 a1_6, .bool a1_7, .int .i64 a1_8, .slice A1_9 l1_9.length c1_9, .slice A1_10 l1_10.length c1_10, .slice A1_11 l1_11.length c1_11, .slice A1_12 l1_12.length c1_12]) (t := 27) ?hr ?_; (case hd => rfl); (case hg => rfl); (case hr => first | (go_simp; done) | (go_simp; rfl)); intro gb545 hg w5 hbox hb; have BK545 := s_a (hbox); have GW545 := s_a ((by rw [hg]; exact (below_size (by exact s_b HB.out)) : w.heap.size ≤ gb545)); have GE545 := s_a ((by rw [hg]; exact (below_size (by exact s_b HB.out)) : w.heap.size ≤ gb545)); have NB544_545 := s_a ((by rw [hg]; exact Nat.ne_of_lt (blk_lt (s_k BK544.out)) : gb544 ≠ gb545)); have NB545_544 := s_a ((by rw [hg]; exact Nat.ne_of_gt (blk_lt (s_k BK544.out)) : gb545 ≠ gb544)); replace BK544 := s_a (blk_below (s_k BK544.out) hb); replace HB := s_a (below_step (by exact s_b HB.out) hb); clear hb hbox hg)))
 (try simp only [Act.put, List.setIfInBounds_toArray, List.set_cons_zero, List.set_cons_succ])
 go_cut [68] (fun v68 wc => ∃ (kq : Nat) (x68_2 : Bool), v68 = .bool x68_2 ∧ Aside0 (orchestratorref21_SameMeta.j0 kq x68_2 a0_0 a0_1 a0_2 a0_3 a0_4 a0_5 a0_6 a0_7 a0_8 l0_9 l0_10 l0_11 l0_12 a1_0 a1_1 a1_2 a1_3 a1_4 a1_5 a1_6 a1_7 a1_8 l1_9 l1_10 l1_11 l1_12 = some r) ∧ Aside0 (kq ≤ k) ∧ Aside0 (wc.heap[gb544]? = some (.cells #[.string a0_0, .string a0_1, .string a0_2, .int .i64 a0_3, .int .i64 a0_4, .int .i64 a0_5, .int .i64 a0_6, .bool a0_7, .int .i64 a0_8, (.slice A0_9 l0_9.length c0_9), (.slice A0_10 l0_10.length c0_10), (.slice A0_11 l0_11.length c0_11), (.slice A0_12 l0_12.length c0_12)] 27 (0, 0))) ∧ Aside0 (wc.heap[gb545]? = some (.cells #[.string a1_0, .string a1_1, .string a1_2, .int .i64 a1_3, .int .i64 a1_4, .int .i64 a1_5, .int .i64 a1_6, .bool a1_7, .int .i64 a1_8, (.slice A1_9 l1_9.length c1_9), (.slice A1_10 l1_10.length c1_10), (.slice A1_11 l1_11.length c1_11), (.slice A1_12 l1_12.length c1_12)] 27 (0, 0))) ∧ Aside0 (Below w.heap.size w wc))
 case first =>
  have H := HC3.out
  clear HC3
  by_cases c6 : a0_0.toList = a1_0.toList
  ·rw [if_pos c6] at H
   have c6b0 : (a0_0.toList == a1_0.toList) = true := beq_iff_eq.mpr c6
   have c6b1 : (a0_0.toList != a1_0.toList) = false := bne_eq_false_iff_eq.mpr c6
   clear c6
   (first | rw [c6b0] | rw [c6b1] | (simp only [i64_w, i32_w]; rw [c6b0]) | skip)
   by_cases c7 : a0_1.toList = a1_1.toList
   ·rw [if_pos c7] at H
    have c7b0 : (a0_1.toList == a1_1.toList) = true := beq_iff_eq.mpr c7
    have c7b1 : (a0_1.toList != a1_1.toList) = false := bne_eq_false_iff_eq.mpr c7
    clear c7
    by_cases c8 : a0_2.toList = a1_2.toList
    ·rw [if_pos c8] at H
     have c8b0 : (a0_2.toList == a1_2.toList) = true := beq_iff_eq.mpr c8
     have c8b1 : (a0_2.toList != a1_2.toList) = false := bne_eq_false_iff_eq.mpr c8
     clear c8
     by_cases c9 : a0_3 = a1_3
     ·rw [if_pos c9] at H
      have c9b0 : (a0_3 == a1_3) = true := beq_iff_eq.mpr c9
      have c9b1 : (a0_3 != a1_3) = false := bne_eq_false_iff_eq.mpr c9
      clear c9
      by_cases c10 : a0_4 = a1_4
      ·rw [if_pos c10] at H
       have c10b0 : (a0_4 == a1_4) = true := beq_iff_eq.mpr c10
       have c10b1 : (a0_4 != a1_4) = false := bne_eq_false_iff_eq.mpr c10
       clear c10
       by_cases c11 : a0_5 = a1_5
       ·rw [if_pos c11] at H
        have c11b0 : (a0_5 == a1_5) = true := beq_iff_eq.mpr c11
        have c11b1 : (a0_5 != a1_5) = false := bne_eq_false_iff_eq.mpr c11
        clear c11
        by_cases c12 : a0_6 = a1_6
        ·rw [if_pos c12] at H
         have c12b0 : (a0_6 == a1_6) = true := beq_iff_eq.mpr c12
         have c12b1 : (a0_6 != a1_6) = false := bne_eq_false_iff_eq.mpr c12
         clear c12
         by_cases c13 : (a0_7 != a1_7) = true
         ·rw [if_pos c13] at H
          have c13b0 : (a0_7 != a1_7) = true := c13
          (try (have c13b1 : decide (a0_7 = a1_7) = false := by simpa using c13))
          (try (have c13b2 : (a0_7 == a1_7) = false := by simpa using c13))
          (try (have c13b3 : ¬ (a0_7 = a1_7) := by simpa using c13))
          clear c13
          have H' := s_a H
          clear H
          have hnb14 := NB544_545.out
          have hnc14 := NB545_544.out
          obtain ⟨hcz15_0, hcz15_1, hcz15_2, hcz15_3, hcz15_4, hcz15_5, hcz15_6, hcz15_7, hcz15_8, hcz15_9, hcz15_10, hcz15_11, hcz15_12⟩ := cells27 BK544.out
          obtain ⟨hcz16_0, hcz16_1, hcz16_2, hcz16_3, hcz16_4, hcz16_5, hcz16_6, hcz16_7, hcz16_8, hcz16_9, hcz16_10, hcz16_11, hcz16_12⟩ := cells27 BK545.out
          go_wp2
          repeat (go_quiet (fail); try go_wp2)
          go_meet
          case rel => exact ⟨_, (true), (by first | rfl | (simp; done) | (simp [*]; done)), H', ⟨by first | omega | exact Nat.le_refl _⟩, ⟨by exact s_k BK544.out⟩, ⟨by exact s_k BK545.out⟩, ⟨by exact s_b HB.out⟩⟩
         ·rw [if_neg c13] at H
          have c13b0 : (a0_7 != a1_7) = false := by simpa using c13
          (try (have c13b1 : decide (a0_7 = a1_7) = true := by simpa using c13))
          (try (have c13b2 : (a0_7 == a1_7) = true := by simpa using c13))
          clear c13
          have H' := s_a H
          clear H
          have hnb17 := NB544_545.out
          have hnc17 := NB545_544.out
          obtain ⟨hcz18_0, hcz18_1, hcz18_2, hcz18_3, hcz18_4, hcz18_5, hcz18_6, hcz18_7, hcz18_8, hcz18_9, hcz18_10, hcz18_11, hcz18_12⟩ := cells27 BK544.out
          obtain ⟨hcz19_0, hcz19_1, hcz19_2, hcz19_3, hcz19_4, hcz19_5, hcz19_6, hcz19_7, hcz19_8, hcz19_9, hcz19_10, hcz19_11, hcz19_12⟩ := cells27 BK545.out
          go_wp2
          repeat (go_quiet (fail); try go_wp2)
          go_meet
          case rel => exact ⟨_, ((a0_8 != a1_8)), (by first | rfl | (simp; done) | (simp [*]; done)), H', ⟨by first | omega | exact Nat.le_refl _⟩, ⟨by exact s_k BK544.out⟩, ⟨by exact s_k BK545.out⟩, ⟨by exact s_b HB.out⟩⟩
        ·rw [if_neg c12] at H
         have c12b0 : (a0_6 == a1_6) = false := beq_eq_false_iff_ne.mpr c12
         have c12b1 : (a0_6 != a1_6) = true := bne_iff_ne.mpr c12
         have H' := s_a H
         clear H
         have hnb20 := NB544_545.out
         have hnc20 := NB545_544.out
         obtain ⟨hcz21_0, hcz21_1, hcz21_2, hcz21_3, hcz21_4, hcz21_5, hcz21_6, hcz21_7, hcz21_8, hcz21_9, hcz21_10, hcz21_11, hcz21_12⟩ := cells27 BK544.out
         obtain ⟨hcz22_0, hcz22_1, hcz22_2, hcz22_3, hcz22_4, hcz22_5, hcz22_6, hcz22_7, hcz22_8, hcz22_9, hcz22_10, hcz22_11, hcz22_12⟩ := cells27 BK545.out
         go_wp2
         repeat (go_quiet (fail); try go_wp2)
         go_meet
         case rel => exact ⟨_, (true), (by first | rfl | (simp; done) | (simp [*]; done)), H', ⟨by first | omega | exact Nat.le_refl _⟩, ⟨by exact s_k BK544.out⟩, ⟨by exact s_k BK545.out⟩, ⟨by exact s_b HB.out⟩⟩
       ·rw [if_neg c11] at H
        have c11b0 : (a0_5 == a1_5) = false := beq_eq_false_iff_ne.mpr c11
        have c11b1 : (a0_5 != a1_5) = true := bne_iff_ne.mpr c11
        have H' := s_a H
        clear H
        have hnb23 := NB544_545.out
        have hnc23 := NB545_544.out
        obtain ⟨hcz24_0, hcz24_1, hcz24_2, hcz24_3, hcz24_4, hcz24_5, hcz24_6, hcz24_7, hcz24_8, hcz24_9, hcz24_10, hcz24_11, hcz24_12⟩ := cells27 BK544.out
        obtain ⟨hcz25_0, hcz25_1, hcz25_2, hcz25_3, hcz25_4, hcz25_5, hcz25_6, hcz25_7, hcz25_8, hcz25_9, hcz25_10, hcz25_11, hcz25_12⟩ := cells27 BK545.out
        go_wp2
        repeat (go_quiet (fail); try go_wp2)
        go_meet
        case rel => exact ⟨_, (true), (by first | rfl | (simp; done) | (simp [*]; done)), H', ⟨by first | omega | exact Nat.le_refl _⟩, ⟨by exact s_k BK544.out⟩, ⟨by exact s_k BK545.out⟩, ⟨by exact s_b HB.out⟩⟩
      ·rw [if_neg c10] at H
       have c10b0 : (a0_4 == a1_4) = false := beq_eq_false_iff_ne.mpr c10
       have c10b1 : (a0_4 != a1_4) = true := bne_iff_ne.mpr c10
       have H' := s_a H
       clear H
       have hnb26 := NB544_545.out
       have hnc26 := NB545_544.out
       obtain ⟨hcz27_0, hcz27_1, hcz27_2, hcz27_3, hcz27_4, hcz27_5, hcz27_6, hcz27_7, hcz27_8, hcz27_9, hcz27_10, hcz27_11, hcz27_12⟩ := cells27 BK544.out
       obtain ⟨hcz28_0, hcz28_1, hcz28_2, hcz28_3, hcz28_4, hcz28_5, hcz28_6, hcz28_7, hcz28_8, hcz28_9, hcz28_10, hcz28_11, hcz28_12⟩ := cells27 BK545.out
       go_wp2
       repeat (go_quiet (fail); try go_wp2)
       go_meet
       case rel => exact ⟨_, (true), (by first | rfl | (simp; done) | (simp [*]; done)), H', ⟨by first | omega | exact Nat.le_refl _⟩, ⟨by exact s_k BK544.out⟩, ⟨by exact s_k BK545.out⟩, ⟨by exact s_b HB.out⟩⟩
     ·rw [if_neg c9] at H
      have c9b0 : (a0_3 == a1_3) = false := beq_eq_false_iff_ne.mpr c9
      have c9b1 : (a0_3 != a1_3) = true := bne_iff_ne.mpr c9
      have H' := s_a H
      clear H
      have hnb29 := NB544_545.out
      have hnc29 := NB545_544.out
      obtain ⟨hcz30_0, hcz30_1, hcz30_2, hcz30_3, hcz30_4, hcz30_5, hcz30_6, hcz30_7, hcz30_8, hcz30_9, hcz30_10, hcz30_11, hcz30_12⟩ := cells27 BK544.out
      obtain ⟨hcz31_0, hcz31_1, hcz31_2, hcz31_3, hcz31_4, hcz31_5, hcz31_6, hcz31_7, hcz31_8, hcz31_9, hcz31_10, hcz31_11, hcz31_12⟩ := cells27 BK545.out
      go_wp2
      repeat (go_quiet (fail); try go_wp2)
      go_meet
      case rel => exact ⟨_, (true), (by first | rfl | (simp; done) | (simp [*]; done)), H', ⟨by first | omega | exact Nat.le_refl _⟩, ⟨by exact s_k BK544.out⟩, ⟨by exact s_k BK545.out⟩, ⟨by exact s_b HB.out⟩⟩
    ·rw [if_neg c8] at H
     have c8b0 : (a0_2.toList == a1_2.toList) = false := beq_eq_false_iff_ne.mpr c8
     have c8b1 : (a0_2.toList != a1_2.toList) = true := bne_iff_ne.mpr c8
     have H' := s_a H
     clear H
     have hnb32 := NB544_545.out
     have hnc32 := NB545_544.out
     obtain ⟨hcz33_0, hcz33_1, hcz33_2, hcz33_3, hcz33_4, hcz33_5, hcz33_6, hcz33_7, hcz33_8, hcz33_9, hcz33_10, hcz33_11, hcz33_12⟩ := cells27 BK544.out
     obtain ⟨hcz34_0, hcz34_1, hcz34_2, hcz34_3, hcz34_4, hcz34_5, hcz34_6, hcz34_7, hcz34_8, hcz34_9, hcz34_10, hcz34_11, hcz34_12⟩ := cells27 BK545.out
     go_wp2
     repeat (go_quiet (fail); try go_wp2)
     go_meet
     case rel => exact ⟨_, (true), (by first | rfl | (simp; done) | (simp [*]; done)), H', ⟨by first | omega | exact Nat.le_refl _⟩, ⟨by exact s_k BK544.out⟩, ⟨by exact s_k BK545.out⟩, ⟨by exact s_b HB.out⟩⟩
   ·rw [if_neg c7] at H
    have c7b0 : (a0_1.toList == a1_1.toList) = false := beq_eq_false_iff_ne.mpr c7
    have c7b1 : (a0_1.toList != a1_1.toList) = true := bne_iff_ne.mpr c7
    have H' := s_a H
    clear H
    have hnb35 := NB544_545.out
    have hnc35 := NB545_544.out
    obtain ⟨hcz36_0, hcz36_1, hcz36_2, hcz36_3, hcz36_4, hcz36_5, hcz36_6, hcz36_7, hcz36_8, hcz36_9, hcz36_10, hcz36_11, hcz36_12⟩ := cells27 BK544.out
    obtain ⟨hcz37_0, hcz37_1, hcz37_2, hcz37_3, hcz37_4, hcz37_5, hcz37_6, hcz37_7, hcz37_8, hcz37_9, hcz37_10, hcz37_11, hcz37_12⟩ := cells27 BK545.out
    go_wp2
    repeat (go_quiet (fail); try go_wp2)
    go_meet
    case rel => exact ⟨_, (true), (by first | rfl | (simp; done) | (simp [*]; done)), H', ⟨by first | omega | exact Nat.le_refl _⟩, ⟨by exact s_k BK544.out⟩, ⟨by exact s_k BK545.out⟩, ⟨by exact s_b HB.out⟩⟩
  ·rw [if_neg c6] at H
   have c6b0 : (a0_0.toList == a1_0.toList) = false := beq_eq_false_iff_ne.mpr c6
   have c6b1 : (a0_0.toList != a1_0.toList) = true := bne_iff_ne.mpr c6
   (first | rw [c6b0] | rw [c6b1] | (simp only [i64_w, i32_w]; rw [c6b0]) | skip)
   have H' := s_a H
   clear H
   have hnb38 := NB544_545.out
   have hnc38 := NB545_544.out
   obtain ⟨hcz39_0, hcz39_1, hcz39_2, hcz39_3, hcz39_4, hcz39_5, hcz39_6, hcz39_7, hcz39_8, hcz39_9, hcz39_10, hcz39_11, hcz39_12⟩ := cells27 BK544.out
   obtain ⟨hcz40_0, hcz40_1, hcz40_2, hcz40_3, hcz40_4, hcz40_5, hcz40_6, hcz40_7, hcz40_8, hcz40_9, hcz40_10, hcz40_11, hcz40_12⟩ := cells27 BK545.out
   go_wp2
   repeat (go_quiet (fail); try go_wp2)
   go_meet
   case rel => exact ⟨_, (true), (by first | rfl | (simp; done) | (simp [*]; done)), H', ⟨by first | omega | exact Nat.le_refl _⟩, ⟨by exact s_k BK544.out⟩, ⟨by exact s_k BK545.out⟩, ⟨by exact s_b HB.out⟩⟩
 case rest =>
  clear HC3
  try clear c1
  try clear c2
  try clear p2
  try clear c3
  try clear c6
  try clear c6b0
  try clear c6b1
  try clear c7
  try clear c7b0
  try clear c7b1
  try clear c8
  try clear c8b0
  try clear c8b1
  try clear c9
  try clear c9b0
  try clear c9b1
  try clear c10
  try clear c10b0
  try clear c10b1
  try clear c11
  try clear c11b0
  try clear c11b1
  try clear c12
  try clear c12b0
  try clear c12b1
  try clear c13
  try clear c13b0
  try clear c13b1
  try clear c13b2
  try clear c14
  try clear c17
  try clear c20
  try clear c21
  try clear c23
  try clear c26
  try clear c29
  try clear c32
  try clear c35
  try clear c38
  try clear hcz15_0 hcz15_1 hcz15_10 hcz15_11 hcz15_12 hcz15_2 hcz15_3 hcz15_4 hcz15_5 hcz15_6 hcz15_7 hcz15_8 hcz15_9
  try clear hcz16_0 hcz16_1 hcz16_10 hcz16_11 hcz16_12 hcz16_2 hcz16_3 hcz16_4 hcz16_5 hcz16_6 hcz16_7 hcz16_8 hcz16_9
  try clear hcz18_0 hcz18_1 hcz18_10 hcz18_11 hcz18_12 hcz18_2 hcz18_3 hcz18_4 hcz18_5 hcz18_6 hcz18_7 hcz18_8 hcz18_9
  try clear hcz19_0 hcz19_1 hcz19_10 hcz19_11 hcz19_12 hcz19_2 hcz19_3 hcz19_4 hcz19_5 hcz19_6 hcz19_7 hcz19_8 hcz19_9
  try clear hcz21_0 hcz21_1 hcz21_10 hcz21_11 hcz21_12 hcz21_2 hcz21_3 hcz21_4 hcz21_5 hcz21_6 hcz21_7 hcz21_8 hcz21_9
  try clear hcz22_0 hcz22_1 hcz22_10 hcz22_11 hcz22_12 hcz22_2 hcz22_3 hcz22_4 hcz22_5 hcz22_6 hcz22_7 hcz22_8 hcz22_9
  try clear hcz24_0 hcz24_1 hcz24_10 hcz24_11 hcz24_12 hcz24_2 hcz24_3 hcz24_4 hcz24_5 hcz24_6 hcz24_7 hcz24_8 hcz24_9
  try clear hcz25_0 hcz25_1 hcz25_10 hcz25_11 hcz25_12 hcz25_2 hcz25_3 hcz25_4 hcz25_5 hcz25_6 hcz25_7 hcz25_8 hcz25_9
  try clear hcz27_0 hcz27_1 hcz27_10 hcz27_11 hcz27_12 hcz27_2 hcz27_3 hcz27_4 hcz27_5 hcz27_6 hcz27_7 hcz27_8 hcz27_9
  try clear hcz28_0 hcz28_1 hcz28_10 hcz28_11 hcz28_12 hcz28_2 hcz28_3 hcz28_4 hcz28_5 hcz28_6 hcz28_7 hcz28_8 hcz28_9
  try clear hcz30_0 hcz30_1 hcz30_10 hcz30_11 hcz30_12 hcz30_2 hcz30_3 hcz30_4 hcz30_5 hcz30_6 hcz30_7 hcz30_8 hcz30_9
  try clear hcz31_0 hcz31_1 hcz31_10 hcz31_11 hcz31_12 hcz31_2 hcz31_3 hcz31_4 hcz31_5 hcz31_6 hcz31_7 hcz31_8 hcz31_9
  try clear hcz33_0 hcz33_1 hcz33_10 hcz33_11 hcz33_12 hcz33_2 hcz33_3 hcz33_4 hcz33_5 hcz33_6 hcz33_7 hcz33_8 hcz33_9
  try clear hcz34_0 hcz34_1 hcz34_10 hcz34_11 hcz34_12 hcz34_2 hcz34_3 hcz34_4 hcz34_5 hcz34_6 hcz34_7 hcz34_8 hcz34_9
  try clear hcz36_0 hcz36_1 hcz36_10 hcz36_11 hcz36_12 hcz36_2 hcz36_3 hcz36_4 hcz36_5 hcz36_6 hcz36_7 hcz36_8 hcz36_9
  try clear hcz37_0 hcz37_1 hcz37_10 hcz37_11 hcz37_12 hcz37_2 hcz37_3 hcz37_4 hcz37_5 hcz37_6 hcz37_7 hcz37_8 hcz37_9
  try clear hcz39_0 hcz39_1 hcz39_10 hcz39_11 hcz39_12 hcz39_2 hcz39_3 hcz39_4 hcz39_5 hcz39_6 hcz39_7 hcz39_8 hcz39_9
  try clear hcz40_0 hcz40_1 hcz40_10 hcz40_11 hcz40_12 hcz40_2 hcz40_3 hcz40_4 hcz40_5 hcz40_6 hcz40_7 hcz40_8 hcz40_9
  obtain ⟨kq, x68_2, rfl, HA, HJ2, BK544, BK545, HB⟩ := hcut
  cases kq with
  | zero => exact absurd HA.out (by simp [orchestratorref21_SameMeta.j0])
  | succ kj2 =>
   have H := HA.out
   clear HA
   simp only [orchestratorref21_SameMeta.j0] at H
   by_cases c41 : x68_2 = true
   ·subst c41
    (try rw [if_pos rfl] at H)
    obtain rfl := Option.some.inj H
    go_wp2
    repeat (go_quiet (fail); try go_wp2)
    go_ret
    exact ⟨by first | rfl | (simp [errW_none, errW_some] <;> rfl) | (simp [*, errW_none, errW_some] <;> rfl), by exact s_b HB.out⟩
   ·replace c41 := Bool.eq_false_iff.mpr c41
    subst c41
    (try rw [if_neg (show ¬ (false = true) by decide)] at H)
    have HC42 := s_a H
    clear H
    go_upto_region 3 with (fail)
    repeat (go_quiet (fail); go_upto_region 3 with (fail))
    go_cut [101] (fun v101 wc => ∃ (kq : Nat) (x101_41 : Bool), v101 = .bool x101_41 ∧ Aside0 (orchestratorref21_SameMeta.j1 kq x101_41 a0_0 a0_1 a0_2 a0_3 a0_4 a0_5 a0_6 a0_7 a0_8 l0_9 l0_10 l0_11 l0_12 a1_0 a1_1 a1_2 a1_3 a1_4 a1_5 a1_6 a1_7 a1_8 l1_9 l1_10 l1_11 l1_12 = some r) ∧ Aside0 (kq ≤ kj2) ∧ Aside0 (wc.heap[gb544]? = some (.cells #[.string a0_0, .string a0_1, .string a0_2, .int .i64 a0_3, .int .i64 a0_4, .int .i64 a0_5, .int .i64 a0_6, .bool a0_7, .int .i64 a0_8, (.slice A0_9 l0_9.length c0_9), (.slice A0_10 l0_10.length c0_10), (.slice A0_11 l0_11.length c0_11), (.slice A0_12 l0_12.length c0_12)] 27 (0, 0))) ∧ Aside0 (wc.heap[gb545]? = some (.cells #[.string a1_0, .string a1_1, .string a1_2, .int .i64 a1_3, .int .i64 a1_4, .int .i64 a1_5, .int .i64 a1_6, .bool a1_7, .int .i64 a1_8, (.slice A1_9 l1_9.length c1_9), (.slice A1_10 l1_10.length c1_10), (.slice A1_11 l1_11.length c1_11), (.slice A1_12 l1_12.length c1_12)] 27 (0, 0))) ∧ Aside0 (Below w.heap.size w wc))
    case first =>
     have H := HC42.out
     clear HC42
     by_cases c43 : (l0_9.length : Int) = (l1_9.length : Int)
     ·rw [if_pos c43] at H
      have c43b0 : ((l0_9.length : Int) == (l1_9.length : Int)) = true := beq_iff_eq.mpr c43
      have c43b1 : ((l0_9.length : Int) != (l1_9.length : Int)) = false := bne_eq_false_iff_eq.mpr c43
      have c43b2 : (l0_9.length == l1_9.length) = true := by first | simpa using c43 | (simp at c43 ⊢; omega)
      clear c43
      (first | rw [c43b0] | rw [c43b1] | (simp only [i64_w, i32_w]; rw [c43b0]) | skip)
      by_cases c44 : (l0_10.length : Int) = (l1_10.length : Int)
      ·rw [if_pos c44] at H
       have c44b0 : ((l0_10.length : Int) == (l1_10.length : Int)) = true := beq_iff_eq.mpr c44
       have c44b1 : ((l0_10.length : Int) != (l1_10.length : Int)) = false := bne_eq_false_iff_eq.mpr c44
       have c44b2 : (l0_10.length == l1_10.length) = true := by first | simpa using c44 | (simp at c44 ⊢; omega)
       clear c44
       replace H := Option.bind_eq_some_iff.mp H
       obtain ⟨t546, A450, H⟩ := H
       (try dsimp only at H)
       have A45 := s_a A450
       clear A450
       by_cases c46 : t546 = true
       ·subst c46
        (try rw [if_pos rfl] at H)
        have H' := s_a H
        clear H
        have hnb47 := NB544_545.out
        have hnc47 := NB545_544.out
        obtain ⟨hcz48_0, hcz48_1, hcz48_2, hcz48_3, hcz48_4, hcz48_5, hcz48_6, hcz48_7, hcz48_8, hcz48_9, hcz48_10, hcz48_11, hcz48_12⟩ := cells27 BK544.out
        obtain ⟨hcz49_0, hcz49_1, hcz49_2, hcz49_3, hcz49_4, hcz49_5, hcz49_6, hcz49_7, hcz49_8, hcz49_9, hcz49_10, hcz49_11, hcz49_12⟩ := cells27 BK545.out
        go_wp2_with (first | (go_at_call 31; (with_reducible refine (orchestratorref21_Strings.calls kj2 _ _ _ _ _ _ _ _ ?side1 ?side2 ?side3 ?side4 A45.out).mono ?_); (case side1 => exact s_D HR0_11.out HB.out); (case side2 => exact HC0_11.out); (case side3 => exact s_D HR1_11.out HB.out); (case side4 => exact HC1_11.out); rintro e w' ⟨rfl, ⟨nd, rfl⟩⟩; (try first | exact ⟨rfl, _, World.drewN_drewN _ _ _⟩ | exact ⟨rfl, _, Eq.trans (World.drewN_drewN _ _ _) (congrArg (World.drewN _) (Nat.add_assoc _ _ _))⟩)))
        repeat (go_quiet (first | (go_at_call 31; (with_reducible refine (orchestratorref21_Strings.calls kj2 _ _ _ _ _ _ _ _ ?side1 ?side2 ?side3 ?side4 A45.out).mono ?_); (case side1 => exact s_D HR0_11.out HB.out); (case side2 => exact HC0_11.out); (case side3 => exact s_D HR1_11.out HB.out); (case side4 => exact HC1_11.out); rintro e w' ⟨rfl, ⟨nd, rfl⟩⟩; (try first | exact ⟨rfl, _, World.drewN_drewN _ _ _⟩ | exact ⟨rfl, _, Eq.trans (World.drewN_drewN _ _ _) (congrArg (World.drewN _) (Nat.add_assoc _ _ _))⟩))); try go_wp2_with (first | (go_at_call 31; (with_reducible refine (orchestratorref21_Strings.calls kj2 _ _ _ _ _ _ _ _ ?side1 ?side2 ?side3 ?side4 A45.out).mono ?_); (case side1 => exact s_D HR0_11.out HB.out); (case side2 => exact HC0_11.out); (case side3 => exact s_D HR1_11.out HB.out); (case side4 => exact HC1_11.out); rintro e w' ⟨rfl, ⟨nd, rfl⟩⟩; (try first | exact ⟨rfl, _, World.drewN_drewN _ _ _⟩ | exact ⟨rfl, _, Eq.trans (World.drewN_drewN _ _ _) (congrArg (World.drewN _) (Nat.add_assoc _ _ _))⟩))))
        go_meet
        case rel => exact ⟨_, (((l0_12.length : Int) != (l1_12.length : Int))), (by first | rfl | (simp; done) | (simp [*]; done)), H', ⟨by have := HJ2.out; first | omega | exact Nat.le_refl _⟩, ⟨by exact s_k BK544.out⟩, ⟨by exact s_k BK545.out⟩, ⟨by exact s_b HB.out⟩⟩
       ·replace c46 := Bool.eq_false_iff.mpr c46
        subst c46
        (try rw [if_neg (show ¬ (false = true) by decide)] at H)
        have H' := s_a H
        clear H
        have hnb50 := NB544_545.out
        have hnc50 := NB545_544.out
        obtain ⟨hcz51_0, hcz51_1, hcz51_2, hcz51_3, hcz51_4, hcz51_5, hcz51_6, hcz51_7, hcz51_8, hcz51_9, hcz51_10, hcz51_11, hcz51_12⟩ := cells27 BK544.out
        obtain ⟨hcz52_0, hcz52_1, hcz52_2, hcz52_3, hcz52_4, hcz52_5, hcz52_6, hcz52_7, hcz52_8, hcz52_9, hcz52_10, hcz52_11, hcz52_12⟩ := cells27 BK545.out
        go_wp2_with (first | (go_at_call 31; (with_reducible refine (orchestratorref21_Strings.calls kj2 _ _ _ _ _ _ _ _ ?side1 ?side2 ?side3 ?side4 A45.out).mono ?_); (case side1 => exact s_D HR0_11.out HB.out); (case side2 => exact HC0_11.out); (case side3 => exact s_D HR1_11.out HB.out); (case side4 => exact HC1_11.out); rintro e w' ⟨rfl, ⟨nd, rfl⟩⟩; (try first | exact ⟨rfl, _, World.drewN_drewN _ _ _⟩ | exact ⟨rfl, _, Eq.trans (World.drewN_drewN _ _ _) (congrArg (World.drewN _) (Nat.add_assoc _ _ _))⟩)))
        repeat (go_quiet (first | (go_at_call 31; (with_reducible refine (orchestratorref21_Strings.calls kj2 _ _ _ _ _ _ _ _ ?side1 ?side2 ?side3 ?side4 A45.out).mono ?_); (case side1 => exact s_D HR0_11.out HB.out); (case side2 => exact HC0_11.out); (case side3 => exact s_D HR1_11.out HB.out); (case side4 => exact HC1_11.out); rintro e w' ⟨rfl, ⟨nd, rfl⟩⟩; (try first | exact ⟨rfl, _, World.drewN_drewN _ _ _⟩ | exact ⟨rfl, _, Eq.trans (World.drewN_drewN _ _ _) (congrArg (World.drewN _) (Nat.add_assoc _ _ _))⟩))); try go_wp2_with (first | (go_at_call 31; (with_reducible refine (orchestratorref21_Strings.calls kj2 _ _ _ _ _ _ _ _ ?side1 ?side2 ?side3 ?side4 A45.out).mono ?_); (case side1 => exact s_D HR0_11.out HB.out); (case side2 => exact HC0_11.out); (case side3 => exact s_D HR1_11.out HB.out); (case side4 => exact HC1_11.out); rintro e w' ⟨rfl, ⟨nd, rfl⟩⟩; (try first | exact ⟨rfl, _, World.drewN_drewN _ _ _⟩ | exact ⟨rfl, _, Eq.trans (World.drewN_drewN _ _ _) (congrArg (World.drewN _) (Nat.add_assoc _ _ _))⟩))))
        go_meet
        case rel => exact ⟨_, (true), (by first | rfl | (simp; done) | (simp [*]; done)), H', ⟨by have := HJ2.out; first | omega | exact Nat.le_refl _⟩, ⟨by exact s_k BK544.out⟩, ⟨by exact s_k BK545.out⟩, ⟨by exact s_b HB.out⟩⟩
      ·rw [if_neg c44] at H
       have c44b0 : ((l0_10.length : Int) == (l1_10.length : Int)) = false := beq_eq_false_iff_ne.mpr c44
       have c44b1 : ((l0_10.length : Int) != (l1_10.length : Int)) = true := bne_iff_ne.mpr c44
       have c44b2 : (l0_10.length == l1_10.length) = false := by first | simpa using c44 | (simp at c44 ⊢; omega)
       have H' := s_a H
       clear H
       have hnb53 := NB544_545.out
       have hnc53 := NB545_544.out
       obtain ⟨hcz54_0, hcz54_1, hcz54_2, hcz54_3, hcz54_4, hcz54_5, hcz54_6, hcz54_7, hcz54_8, hcz54_9, hcz54_10, hcz54_11, hcz54_12⟩ := cells27 BK544.out
       obtain ⟨hcz55_0, hcz55_1, hcz55_2, hcz55_3, hcz55_4, hcz55_5, hcz55_6, hcz55_7, hcz55_8, hcz55_9, hcz55_10, hcz55_11, hcz55_12⟩ := cells27 BK545.out
       go_wp2
       repeat (go_quiet (fail); try go_wp2)
       go_meet
       case rel => exact ⟨_, (true), (by first | rfl | (simp; done) | (simp [*]; done)), H', ⟨by have := HJ2.out; first | omega | exact Nat.le_refl _⟩, ⟨by exact s_k BK544.out⟩, ⟨by exact s_k BK545.out⟩, ⟨by exact s_b HB.out⟩⟩
     ·rw [if_neg c43] at H
      have c43b0 : ((l0_9.length : Int) == (l1_9.length : Int)) = false := beq_eq_false_iff_ne.mpr c43
      have c43b1 : ((l0_9.length : Int) != (l1_9.length : Int)) = true := bne_iff_ne.mpr c43
      have c43b2 : (l0_9.length == l1_9.length) = false := by first | simpa using c43 | (simp at c43 ⊢; omega)
      (first | rw [c43b0] | rw [c43b1] | (simp only [i64_w, i32_w]; rw [c43b0]) | skip)
      have H' := s_a H
      clear H
      have hnb56 := NB544_545.out
      have hnc56 := NB545_544.out
      obtain ⟨hcz57_0, hcz57_1, hcz57_2, hcz57_3, hcz57_4, hcz57_5, hcz57_6, hcz57_7, hcz57_8, hcz57_9, hcz57_10, hcz57_11, hcz57_12⟩ := cells27 BK544.out
      obtain ⟨hcz58_0, hcz58_1, hcz58_2, hcz58_3, hcz58_4, hcz58_5, hcz58_6, hcz58_7, hcz58_8, hcz58_9, hcz58_10, hcz58_11, hcz58_12⟩ := cells27 BK545.out
      go_wp2
      repeat (go_quiet (fail); try go_wp2)
      go_meet
      case rel => exact ⟨_, (true), (by first | rfl | (simp; done) | (simp [*]; done)), H', ⟨by have := HJ2.out; first | omega | exact Nat.le_refl _⟩, ⟨by exact s_k BK544.out⟩, ⟨by exact s_k BK545.out⟩, ⟨by exact s_b HB.out⟩⟩
    case rest =>
     clear HC42
     try clear c1
     try clear c2
     try clear p2
     try clear c3
     try clear c4
     try clear c5
     try clear c6
     try clear c6b0
     try clear c6b1
     try clear c7
     try clear c7b0
     try clear c7b1
     try clear c8
     try clear c8b0
     try clear c8b1
     try clear c9
     try clear c9b0
     try clear c9b1
     try clear c10
     try clear c10b0
     try clear c10b1
     try clear c11
     try clear c11b0
     try clear c11b1
     try clear c12
     try clear c12b0
     try clear c12b1
     try clear c13
     try clear c13b0
     try clear c13b1
     try clear c13b2
     try clear c14
     try clear c17
     try clear c20
     try clear c21
     try clear c23
     try clear c26
     try clear c29
     try clear c32
     try clear c35
     try clear c38
     try clear c41
     try clear c43
     try clear c43b0
     try clear c43b1
     try clear c43b2
     try clear c44
     try clear c44b0
     try clear c44b1
     try clear c44b2
     try clear c46
     try clear c47
     try clear c50
     try clear c53
     try clear c56
     try clear hcz15_0 hcz15_1 hcz15_10 hcz15_11 hcz15_12 hcz15_2 hcz15_3 hcz15_4 hcz15_5 hcz15_6 hcz15_7 hcz15_8 hcz15_9
     try clear hcz16_0 hcz16_1 hcz16_10 hcz16_11 hcz16_12 hcz16_2 hcz16_3 hcz16_4 hcz16_5 hcz16_6 hcz16_7 hcz16_8 hcz16_9
     try clear hcz18_0 hcz18_1 hcz18_10 hcz18_11 hcz18_12 hcz18_2 hcz18_3 hcz18_4 hcz18_5 hcz18_6 hcz18_7 hcz18_8 hcz18_9
     try clear hcz19_0 hcz19_1 hcz19_10 hcz19_11 hcz19_12 hcz19_2 hcz19_3 hcz19_4 hcz19_5 hcz19_6 hcz19_7 hcz19_8 hcz19_9
     try clear hcz21_0 hcz21_1 hcz21_10 hcz21_11 hcz21_12 hcz21_2 hcz21_3 hcz21_4 hcz21_5 hcz21_6 hcz21_7 hcz21_8 hcz21_9
     try clear hcz22_0 hcz22_1 hcz22_10 hcz22_11 hcz22_12 hcz22_2 hcz22_3 hcz22_4 hcz22_5 hcz22_6 hcz22_7 hcz22_8 hcz22_9
     try clear hcz24_0 hcz24_1 hcz24_10 hcz24_11 hcz24_12 hcz24_2 hcz24_3 hcz24_4 hcz24_5 hcz24_6 hcz24_7 hcz24_8 hcz24_9
     try clear hcz25_0 hcz25_1 hcz25_10 hcz25_11 hcz25_12 hcz25_2 hcz25_3 hcz25_4 hcz25_5 hcz25_6 hcz25_7 hcz25_8 hcz25_9
     try clear hcz27_0 hcz27_1 hcz27_10 hcz27_11 hcz27_12 hcz27_2 hcz27_3 hcz27_4 hcz27_5 hcz27_6 hcz27_7 hcz27_8 hcz27_9
     try clear hcz28_0 hcz28_1 hcz28_10 hcz28_11 hcz28_12 hcz28_2 hcz28_3 hcz28_4 hcz28_5 hcz28_6 hcz28_7 hcz28_8 hcz28_9
     try clear hcz30_0 hcz30_1 hcz30_10 hcz30_11 hcz30_12 hcz30_2 hcz30_3 hcz30_4 hcz30_5 hcz30_6 hcz30_7 hcz30_8 hcz30_9
     try clear hcz31_0 hcz31_1 hcz31_10 hcz31_11 hcz31_12 hcz31_2 hcz31_3 hcz31_4 hcz31_5 hcz31_6 hcz31_7 hcz31_8 hcz31_9
     try clear hcz33_0 hcz33_1 hcz33_10 hcz33_11 hcz33_12 hcz33_2 hcz33_3 hcz33_4 hcz33_5 hcz33_6 hcz33_7 hcz33_8 hcz33_9
     try clear hcz34_0 hcz34_1 hcz34_10 hcz34_11 hcz34_12 hcz34_2 hcz34_3 hcz34_4 hcz34_5 hcz34_6 hcz34_7 hcz34_8 hcz34_9
     try clear hcz36_0 hcz36_1 hcz36_10 hcz36_11 hcz36_12 hcz36_2 hcz36_3 hcz36_4 hcz36_5 hcz36_6 hcz36_7 hcz36_8 hcz36_9
     try clear hcz37_0 hcz37_1 hcz37_10 hcz37_11 hcz37_12 hcz37_2 hcz37_3 hcz37_4 hcz37_5 hcz37_6 hcz37_7 hcz37_8 hcz37_9
     try clear hcz39_0 hcz39_1 hcz39_10 hcz39_11 hcz39_12 hcz39_2 hcz39_3 hcz39_4 hcz39_5 hcz39_6 hcz39_7 hcz39_8 hcz39_9
     try clear hcz40_0 hcz40_1 hcz40_10 hcz40_11 hcz40_12 hcz40_2 hcz40_3 hcz40_4 hcz40_5 hcz40_6 hcz40_7 hcz40_8 hcz40_9
     try clear hcz48_0 hcz48_1 hcz48_10 hcz48_11 hcz48_12 hcz48_2 hcz48_3 hcz48_4 hcz48_5 hcz48_6 hcz48_7 hcz48_8 hcz48_9
     try clear hcz49_0 hcz49_1 hcz49_10 hcz49_11 hcz49_12 hcz49_2 hcz49_3 hcz49_4 hcz49_5 hcz49_6 hcz49_7 hcz49_8 hcz49_9
     try clear hcz51_0 hcz51_1 hcz51_10 hcz51_11 hcz51_12 hcz51_2 hcz51_3 hcz51_4 hcz51_5 hcz51_6 hcz51_7 hcz51_8 hcz51_9
     try clear hcz52_0 hcz52_1 hcz52_10 hcz52_11 hcz52_12 hcz52_2 hcz52_3 hcz52_4 hcz52_5 hcz52_6 hcz52_7 hcz52_8 hcz52_9
     try clear hcz54_0 hcz54_1 hcz54_10 hcz54_11 hcz54_12 hcz54_2 hcz54_3 hcz54_4 hcz54_5 hcz54_6 hcz54_7 hcz54_8 hcz54_9
     try clear hcz55_0 hcz55_1 hcz55_10 hcz55_11 hcz55_12 hcz55_2 hcz55_3 hcz55_4 hcz55_5 hcz55_6 hcz55_7 hcz55_8 hcz55_9
     try clear hcz57_0 hcz57_1 hcz57_10 hcz57_11 hcz57_12 hcz57_2 hcz57_3 hcz57_4 hcz57_5 hcz57_6 hcz57_7 hcz57_8 hcz57_9
     try clear hcz58_0 hcz58_1 hcz58_10 hcz58_11 hcz58_12 hcz58_2 hcz58_3 hcz58_4 hcz58_5 hcz58_6 hcz58_7 hcz58_8 hcz58_9
     try clear p2
     obtain ⟨kq, x101_41, rfl, HA, HJ41, BK544, BK545, HB⟩ := hcut
     cases kq with
     | zero => exact absurd HA.out (by simp [orchestratorref21_SameMeta.j1])
     | succ kj41 =>
      have H := HA.out
      clear HA
      simp only [orchestratorref21_SameMeta.j1] at H
      by_cases c59 : x101_41 = true
      ·subst c59
       (try rw [if_pos rfl] at H)
       obtain rfl := Option.some.inj H
       go_wp2
       repeat (go_quiet (fail); try go_wp2)
       go_ret
       exact ⟨by first | rfl | (simp [errW_none, errW_some] <;> rfl) | (simp [*, errW_none, errW_some] <;> rfl), by exact s_b HB.out⟩
      ·replace c59 := Bool.eq_false_iff.mpr c59
       subst c59
       (try rw [if_neg (show ¬ (false = true) by decide)] at H)
       have H' := s_a H
       clear H
       go_wp2
       repeat (go_quiet (fail); try go_wp2)
       go_loopg [5] kj41 (fun kq v5 w' => ∃ (x5_3 : Int), v5 = .int .i64 x5_3 ∧ Aside0 (orchestratorref21_SameMeta.l0 kq x5_3 a0_0 a0_1 a0_2 a0_3 a0_4 a0_5 a0_6 a0_7 a0_8 l0_9 l0_10 l0_11 l0_12 a1_0 a1_1 a1_2 a1_3 a1_4 a1_5 a1_6 a1_7 a1_8 l1_9 l1_10 l1_11 l1_12 = some r) ∧ Aside0 (kq ≤ kj41) ∧ Aside0 (w'.heap[gb544]? = some (.cells #[.string a0_0, .string a0_1, .string a0_2, .int .i64 a0_3, .int .i64 a0_4, .int .i64 a0_5, .int .i64 a0_6, .bool a0_7, .int .i64 a0_8, (.slice A0_9 l0_9.length c0_9), (.slice A0_10 l0_10.length c0_10), (.slice A0_11 l0_11.length c0_11), (.slice A0_12 l0_12.length c0_12)] 27 (0, 0))) ∧ Aside0 (w'.heap[gb545]? = some (.cells #[.string a1_0, .string a1_1, .string a1_2, .int .i64 a1_3, .int .i64 a1_4, .int .i64 a1_5, .int .i64 a1_6, .bool a1_7, .int .i64 a1_8, (.slice A1_9 l1_9.length c1_9), (.slice A1_10 l1_10.length c1_10), (.slice A1_11 l1_11.length c1_11), (.slice A1_12 l1_12.length c1_12)] 27 (0, 0))) ∧ Aside0 (Below w.heap.size w w'))
       case atStart => exact ⟨(0), (by first | rfl | (simp; done) | (simp [*]; done)), H', ⟨Nat.le_refl _⟩, ⟨by exact s_k BK544.out⟩, ⟨by exact s_k BK545.out⟩, ⟨by exact s_b HB.out⟩⟩
       case round =>
        clear H'
        try clear c1
        try clear c2
        try clear p2
        try clear c3
        try clear c4
        try clear c5
        try clear c6
        try clear c6b0
        try clear c6b1
        try clear c7
        try clear c7b0
        try clear c7b1
        try clear c8
        try clear c8b0
        try clear c8b1
        try clear c9
        try clear c9b0
        try clear c9b1
        try clear c10
        try clear c10b0
        try clear c10b1
        try clear c11
        try clear c11b0
        try clear c11b1
        try clear c12
        try clear c12b0
        try clear c12b1
        try clear c13
        try clear c13b0
        try clear c13b1
        try clear c13b2
        try clear c14
        try clear c17
        try clear c20
        try clear c21
        try clear c23
        try clear c26
        try clear c29
        try clear c32
        try clear c35
        try clear c38
        try clear c41
        try clear c43
        try clear c43b0
        try clear c43b1
        try clear c43b2
        try clear c44
        try clear c44b0
        try clear c44b1
        try clear c44b2
        try clear c46
        try clear c47
        try clear c50
        try clear c53
        try clear c56
        try clear c59
        try clear hcz15_0 hcz15_1 hcz15_10 hcz15_11 hcz15_12 hcz15_2 hcz15_3 hcz15_4 hcz15_5 hcz15_6 hcz15_7 hcz15_8 hcz15_9
        try clear hcz16_0 hcz16_1 hcz16_10 hcz16_11 hcz16_12 hcz16_2 hcz16_3 hcz16_4 hcz16_5 hcz16_6 hcz16_7 hcz16_8 hcz16_9
        try clear hcz18_0 hcz18_1 hcz18_10 hcz18_11 hcz18_12 hcz18_2 hcz18_3 hcz18_4 hcz18_5 hcz18_6 hcz18_7 hcz18_8 hcz18_9
        try clear hcz19_0 hcz19_1 hcz19_10 hcz19_11 hcz19_12 hcz19_2 hcz19_3 hcz19_4 hcz19_5 hcz19_6 hcz19_7 hcz19_8 hcz19_9
        try clear hcz21_0 hcz21_1 hcz21_10 hcz21_11 hcz21_12 hcz21_2 hcz21_3 hcz21_4 hcz21_5 hcz21_6 hcz21_7 hcz21_8 hcz21_9
        try clear hcz22_0 hcz22_1 hcz22_10 hcz22_11 hcz22_12 hcz22_2 hcz22_3 hcz22_4 hcz22_5 hcz22_6 hcz22_7 hcz22_8 hcz22_9
        try clear hcz24_0 hcz24_1 hcz24_10 hcz24_11 hcz24_12 hcz24_2 hcz24_3 hcz24_4 hcz24_5 hcz24_6 hcz24_7 hcz24_8 hcz24_9
        try clear hcz25_0 hcz25_1 hcz25_10 hcz25_11 hcz25_12 hcz25_2 hcz25_3 hcz25_4 hcz25_5 hcz25_6 hcz25_7 hcz25_8 hcz25_9
        try clear hcz27_0 hcz27_1 hcz27_10 hcz27_11 hcz27_12 hcz27_2 hcz27_3 hcz27_4 hcz27_5 hcz27_6 hcz27_7 hcz27_8 hcz27_9
        try clear hcz28_0 hcz28_1 hcz28_10 hcz28_11 hcz28_12 hcz28_2 hcz28_3 hcz28_4 hcz28_5 hcz28_6 hcz28_7 hcz28_8 hcz28_9
        try clear hcz30_0 hcz30_1 hcz30_10 hcz30_11 hcz30_12 hcz30_2 hcz30_3 hcz30_4 hcz30_5 hcz30_6 hcz30_7 hcz30_8 hcz30_9
        try clear hcz31_0 hcz31_1 hcz31_10 hcz31_11 hcz31_12 hcz31_2 hcz31_3 hcz31_4 hcz31_5 hcz31_6 hcz31_7 hcz31_8 hcz31_9
        try clear hcz33_0 hcz33_1 hcz33_10 hcz33_11 hcz33_12 hcz33_2 hcz33_3 hcz33_4 hcz33_5 hcz33_6 hcz33_7 hcz33_8 hcz33_9
        try clear hcz34_0 hcz34_1 hcz34_10 hcz34_11 hcz34_12 hcz34_2 hcz34_3 hcz34_4 hcz34_5 hcz34_6 hcz34_7 hcz34_8 hcz34_9
        try clear hcz36_0 hcz36_1 hcz36_10 hcz36_11 hcz36_12 hcz36_2 hcz36_3 hcz36_4 hcz36_5 hcz36_6 hcz36_7 hcz36_8 hcz36_9
        try clear hcz37_0 hcz37_1 hcz37_10 hcz37_11 hcz37_12 hcz37_2 hcz37_3 hcz37_4 hcz37_5 hcz37_6 hcz37_7 hcz37_8 hcz37_9
        try clear hcz39_0 hcz39_1 hcz39_10 hcz39_11 hcz39_12 hcz39_2 hcz39_3 hcz39_4 hcz39_5 hcz39_6 hcz39_7 hcz39_8 hcz39_9
        try clear hcz40_0 hcz40_1 hcz40_10 hcz40_11 hcz40_12 hcz40_2 hcz40_3 hcz40_4 hcz40_5 hcz40_6 hcz40_7 hcz40_8 hcz40_9
        try clear hcz48_0 hcz48_1 hcz48_10 hcz48_11 hcz48_12 hcz48_2 hcz48_3 hcz48_4 hcz48_5 hcz48_6 hcz48_7 hcz48_8 hcz48_9
        try clear hcz49_0 hcz49_1 hcz49_10 hcz49_11 hcz49_12 hcz49_2 hcz49_3 hcz49_4 hcz49_5 hcz49_6 hcz49_7 hcz49_8 hcz49_9
        try clear hcz51_0 hcz51_1 hcz51_10 hcz51_11 hcz51_12 hcz51_2 hcz51_3 hcz51_4 hcz51_5 hcz51_6 hcz51_7 hcz51_8 hcz51_9
        try clear hcz52_0 hcz52_1 hcz52_10 hcz52_11 hcz52_12 hcz52_2 hcz52_3 hcz52_4 hcz52_5 hcz52_6 hcz52_7 hcz52_8 hcz52_9
        try clear hcz54_0 hcz54_1 hcz54_10 hcz54_11 hcz54_12 hcz54_2 hcz54_3 hcz54_4 hcz54_5 hcz54_6 hcz54_7 hcz54_8 hcz54_9
        try clear hcz55_0 hcz55_1 hcz55_10 hcz55_11 hcz55_12 hcz55_2 hcz55_3 hcz55_4 hcz55_5 hcz55_6 hcz55_7 hcz55_8 hcz55_9
        try clear hcz57_0 hcz57_1 hcz57_10 hcz57_11 hcz57_12 hcz57_2 hcz57_3 hcz57_4 hcz57_5 hcz57_6 hcz57_7 hcz57_8 hcz57_9
        try clear hcz58_0 hcz58_1 hcz58_10 hcz58_11 hcz58_12 hcz58_2 hcz58_3 hcz58_4 hcz58_5 hcz58_6 hcz58_7 hcz58_8 hcz58_9
        try clear p2
        obtain ⟨x5_3, rfl, HA, HK3, BK544, BK545, HB⟩ := hrel
        cases gk with
        | zero => exact absurd HA.out (by simp [orchestratorref21_SameMeta.l0])
        | succ k3 =>
         have H := HA.out
         clear HA
         simp only [orchestratorref21_SameMeta.l0] at H
         by_cases c60 : x5_3 < (l0_9.length : Int)
         ·rw [if_pos c60] at H
          have c60b0 : decide (x5_3 < (l0_9.length : Int)) = true := decide_eq_true c60
          clear c60
          by_cases c61 : 0 ≤ x5_3
          ·rw [if_pos c61] at H
           have c61b0 : decide (0 ≤ x5_3) = true := decide_eq_true c61
           clear c61
           by_cases c62 : x5_3 < (l1_9.length : Int)
           ·rw [if_pos c62] at H
            have c62b0 : decide (x5_3 < (l1_9.length : Int)) = true := decide_eq_true c62
            clear c62
            by_cases c63 : (!((((rd_T59 l0_9 x5_3).f0).toList) == (((rd_T59 l1_9 x5_3).f0).toList)) || (!((((rd_T59 l0_9 x5_3).f1).toList) == (((rd_T59 l1_9 x5_3).f1).toList)))) = true
            ·rw [if_pos c63] at H
             have c63b0 : (!((((rd_T59 l0_9 x5_3).f0).toList) == (((rd_T59 l1_9 x5_3).f0).toList)) || (!((((rd_T59 l0_9 x5_3).f1).toList) == (((rd_T59 l1_9 x5_3).f1).toList)))) = true := c63
             clear c63
             obtain rfl := Option.some.inj H
             have hnb64 := NB544_545.out
             have hnc64 := NB545_544.out
             obtain ⟨hcz65_0, hcz65_1, hcz65_2, hcz65_3, hcz65_4, hcz65_5, hcz65_6, hcz65_7, hcz65_8, hcz65_9, hcz65_10, hcz65_11, hcz65_12⟩ := cells27 BK544.out
             have p547 : 0 ≤ (x5_3 : Int) := of_decide_eq_true (by first | (with_reducible assumption) | assumption)
             have q547 : x5_3 < (l0_9.length : Int) := of_decide_eq_true (by first | (with_reducible assumption) | assumption)
             obtain ⟨ad547, e547, hx547_0, hx547_1⟩ := at_T59 HR0_9.out x5_3 p547 q547
             cases e547
             replace hx547_0 := s_m HB.out hx547_0
             replace hx547_1 := s_m HB.out hx547_1
             replace p547 := eq_true p547
             replace q547 := eq_true q547
             obtain ⟨hcz66_0, hcz66_1, hcz66_2, hcz66_3, hcz66_4, hcz66_5, hcz66_6, hcz66_7, hcz66_8, hcz66_9, hcz66_10, hcz66_11, hcz66_12⟩ := cells27 BK545.out
             have p548 : 0 ≤ (x5_3 : Int) := of_decide_eq_true (by first | (with_reducible assumption) | assumption)
             have q548 : x5_3 < (l1_9.length : Int) := of_decide_eq_true (by first | (with_reducible assumption) | assumption)
             obtain ⟨ad548, e548, hx548_0, hx548_1⟩ := at_T59 HR1_9.out x5_3 p548 q548
             cases e548
             replace hx548_0 := s_m HB.out hx548_0
             replace hx548_1 := s_m HB.out hx548_1
             replace p548 := eq_true p548
             replace q548 := eq_true q548
             go_wp2
             repeat (go_quiet (fail); try go_wp2)
             go_ret
             exact ⟨by first | rfl | (simp [errW_none, errW_some] <;> rfl) | (simp [*, errW_none, errW_some] <;> rfl), by exact s_b HB.out⟩
            ·rw [if_neg c63] at H
             have c63b0 : (!((((rd_T59 l0_9 x5_3).f0).toList) == (((rd_T59 l1_9 x5_3).f0).toList)) || (!((((rd_T59 l0_9 x5_3).f1).toList) == (((rd_T59 l1_9 x5_3).f1).toList)))) = false := by simpa using c63
             clear c63
             have H' := s_a H
             clear H
             have hnb67 := NB544_545.out
             have hnc67 := NB545_544.out
             obtain ⟨hcz68_0, hcz68_1, hcz68_2, hcz68_3, hcz68_4, hcz68_5, hcz68_6, hcz68_7, hcz68_8, hcz68_9, hcz68_10, hcz68_11, hcz68_12⟩ := cells27 BK544.out
             have p547 : 0 ≤ (x5_3 : Int) := of_decide_eq_true (by first | (with_reducible assumption) | assumption)
             have q547 : x5_3 < (l0_9.length : Int) := of_decide_eq_true (by first | (with_reducible assumption) | assumption)
             obtain ⟨ad547, e547, hx547_0, hx547_1⟩ := at_T59 HR0_9.out x5_3 p547 q547
             cases e547
             replace hx547_0 := s_m HB.out hx547_0
             replace hx547_1 := s_m HB.out hx547_1
             replace p547 := eq_true p547
             replace q547 := eq_true q547
             obtain ⟨hcz69_0, hcz69_1, hcz69_2, hcz69_3, hcz69_4, hcz69_5, hcz69_6, hcz69_7, hcz69_8, hcz69_9, hcz69_10, hcz69_11, hcz69_12⟩ := cells27 BK545.out
             have p548 : 0 ≤ (x5_3 : Int) := of_decide_eq_true (by first | (with_reducible assumption) | assumption)
             have q548 : x5_3 < (l1_9.length : Int) := of_decide_eq_true (by first | (with_reducible assumption) | assumption)
             obtain ⟨ad548, e548, hx548_0, hx548_1⟩ := at_T59 HR1_9.out x5_3 p548 q548
             cases e548
             replace hx548_0 := s_m HB.out hx548_0
             replace hx548_1 := s_m HB.out hx548_1
             replace p548 := eq_true p548
             replace q548 := eq_true q548
             go_wp2
             repeat (go_quiet (fail); try go_wp2)
             go_roundg k3
             case measure => have := HJ2.out; have := HJ41.out; have := HK3.out; omega
             case rel => exact ⟨(wrap64 (x5_3 + 1)), (by first | rfl | (simp; done) | (simp [*]; done)), H', ⟨by have := HJ2.out; have := HJ41.out; have := HK3.out; omega⟩, ⟨by exact s_k BK544.out⟩, ⟨by exact s_k BK545.out⟩, ⟨by exact s_b HB.out⟩⟩
           ·rw [if_neg c62] at H
            exact absurd H (by simp)
          ·rw [if_neg c61] at H
           exact absurd H (by simp)
         ·rw [if_neg c60] at H
          have c60b0 : decide (x5_3 < (l0_9.length : Int)) = false := decide_eq_false c60
          clear c60
          have H' := s_a H
          clear H
          have hnb70 := NB544_545.out
          have hnc70 := NB545_544.out
          obtain ⟨hcz71_0, hcz71_1, hcz71_2, hcz71_3, hcz71_4, hcz71_5, hcz71_6, hcz71_7, hcz71_8, hcz71_9, hcz71_10, hcz71_11, hcz71_12⟩ := cells27 BK544.out
          go_wp2
          repeat (go_quiet (fail); try go_wp2)
          go_loopg [6] k3 (fun kq v6 w' => ∃ (x6_4 : Int), v6 = .int .i64 x6_4 ∧ Aside0 (orchestratorref21_SameMeta.l1 kq x6_4 a0_0 a0_1 a0_2 a0_3 a0_4 a0_5 a0_6 a0_7 a0_8 l0_9 l0_10 l0_11 l0_12 a1_0 a1_1 a1_2 a1_3 a1_4 a1_5 a1_6 a1_7 a1_8 l1_9 l1_10 l1_11 l1_12 = some r) ∧ Aside0 (kq ≤ k3) ∧ Aside0 (w'.heap[gb544]? = some (.cells #[.string a0_0, .string a0_1, .string a0_2, .int .i64 a0_3, .int .i64 a0_4, .int .i64 a0_5, .int .i64 a0_6, .bool a0_7, .int .i64 a0_8, (.slice A0_9 l0_9.length c0_9), (.slice A0_10 l0_10.length c0_10), (.slice A0_11 l0_11.length c0_11), (.slice A0_12 l0_12.length c0_12)] 27 (0, 0))) ∧ Aside0 (w'.heap[gb545]? = some (.cells #[.string a1_0, .string a1_1, .string a1_2, .int .i64 a1_3, .int .i64 a1_4, .int .i64 a1_5, .int .i64 a1_6, .bool a1_7, .int .i64 a1_8, (.slice A1_9 l1_9.length c1_9), (.slice A1_10 l1_10.length c1_10), (.slice A1_11 l1_11.length c1_11), (.slice A1_12 l1_12.length c1_12)] 27 (0, 0))) ∧ Aside0 (Below w.heap.size w w'))
          case atStart => exact ⟨(0), (by first | rfl | (simp; done) | (simp [*]; done)), H', ⟨Nat.le_refl _⟩, ⟨by exact s_k BK544.out⟩, ⟨by exact s_k BK545.out⟩, ⟨by exact s_b HB.out⟩⟩
          case round =>
           clear H'
           try clear c1
           try clear c2
           try clear p2
           try clear c3
           try clear c4
           try clear c5
           try clear p5
           try clear q5
           try clear hx5
           try clear c6
           try clear c6b0
           try clear c6b1
           try clear p6
           try clear c7
           try clear c7b0
           try clear c7b1
           try clear c8
           try clear c8b0
           try clear c8b1
           try clear c9
           try clear c9b0
           try clear c9b1
           try clear c10
           try clear c10b0
           try clear c10b1
           try clear c11
           try clear c11b0
           try clear c11b1
           try clear c12
           try clear c12b0
           try clear c12b1
           try clear c13
           try clear c13b0
           try clear c13b1
           try clear c13b2
           try clear c14
           try clear c17
           try clear c20
           try clear c21
           try clear c23
           try clear c26
           try clear c29
           try clear c32
           try clear c35
           try clear c38
           try clear c41
           try clear c43
           try clear c43b0
           try clear c43b1
           try clear c43b2
           try clear c44
           try clear c44b0
           try clear c44b1
           try clear c44b2
           try clear c46
           try clear c47
           try clear c50
           try clear c53
           try clear p54
           try clear q54
           try clear hx54
           try clear c56
           try clear c59
           try clear c60
           try clear c60b0
           try clear c61
           try clear c61b0
           try clear c62
           try clear c62b0
           try clear c63
           try clear c63b0
           try clear c64
           try clear p64
           try clear c67
           try clear c70
           try clear hcz15_0 hcz15_1 hcz15_10 hcz15_11 hcz15_12 hcz15_2 hcz15_3 hcz15_4 hcz15_5 hcz15_6 hcz15_7 hcz15_8 hcz15_9
           try clear hcz16_0 hcz16_1 hcz16_10 hcz16_11 hcz16_12 hcz16_2 hcz16_3 hcz16_4 hcz16_5 hcz16_6 hcz16_7 hcz16_8 hcz16_9
           try clear hcz18_0 hcz18_1 hcz18_10 hcz18_11 hcz18_12 hcz18_2 hcz18_3 hcz18_4 hcz18_5 hcz18_6 hcz18_7 hcz18_8 hcz18_9
           try clear hcz19_0 hcz19_1 hcz19_10 hcz19_11 hcz19_12 hcz19_2 hcz19_3 hcz19_4 hcz19_5 hcz19_6 hcz19_7 hcz19_8 hcz19_9
           try clear hcz21_0 hcz21_1 hcz21_10 hcz21_11 hcz21_12 hcz21_2 hcz21_3 hcz21_4 hcz21_5 hcz21_6 hcz21_7 hcz21_8 hcz21_9
           try clear hcz22_0 hcz22_1 hcz22_10 hcz22_11 hcz22_12 hcz22_2 hcz22_3 hcz22_4 hcz22_5 hcz22_6 hcz22_7 hcz22_8 hcz22_9
           try clear hcz24_0 hcz24_1 hcz24_10 hcz24_11 hcz24_12 hcz24_2 hcz24_3 hcz24_4 hcz24_5 hcz24_6 hcz24_7 hcz24_8 hcz24_9
           try clear hcz25_0 hcz25_1 hcz25_10 hcz25_11 hcz25_12 hcz25_2 hcz25_3 hcz25_4 hcz25_5 hcz25_6 hcz25_7 hcz25_8 hcz25_9
           try clear hcz27_0 hcz27_1 hcz27_10 hcz27_11 hcz27_12 hcz27_2 hcz27_3 hcz27_4 hcz27_5 hcz27_6 hcz27_7 hcz27_8 hcz27_9
           try clear hcz28_0 hcz28_1 hcz28_10 hcz28_11 hcz28_12 hcz28_2 hcz28_3 hcz28_4 hcz28_5 hcz28_6 hcz28_7 hcz28_8 hcz28_9
           try clear hcz30_0 hcz30_1 hcz30_10 hcz30_11 hcz30_12 hcz30_2 hcz30_3 hcz30_4 hcz30_5 hcz30_6 hcz30_7 hcz30_8 hcz30_9
           try clear hcz31_0 hcz31_1 hcz31_10 hcz31_11 hcz31_12 hcz31_2 hcz31_3 hcz31_4 hcz31_5 hcz31_6 hcz31_7 hcz31_8 hcz31_9
           try clear hcz33_0 hcz33_1 hcz33_10 hcz33_11 hcz33_12 hcz33_2 hcz33_3 hcz33_4 hcz33_5 hcz33_6 hcz33_7 hcz33_8 hcz33_9
           try clear hcz34_0 hcz34_1 hcz34_10 hcz34_11 hcz34_12 hcz34_2 hcz34_3 hcz34_4 hcz34_5 hcz34_6 hcz34_7 hcz34_8 hcz34_9
           try clear hcz36_0 hcz36_1 hcz36_10 hcz36_11 hcz36_12 hcz36_2 hcz36_3 hcz36_4 hcz36_5 hcz36_6 hcz36_7 hcz36_8 hcz36_9
           try clear hcz37_0 hcz37_1 hcz37_10 hcz37_11 hcz37_12 hcz37_2 hcz37_3 hcz37_4 hcz37_5 hcz37_6 hcz37_7 hcz37_8 hcz37_9
           try clear hcz39_0 hcz39_1 hcz39_10 hcz39_11 hcz39_12 hcz39_2 hcz39_3 hcz39_4 hcz39_5 hcz39_6 hcz39_7 hcz39_8 hcz39_9
           try clear hcz40_0 hcz40_1 hcz40_10 hcz40_11 hcz40_12 hcz40_2 hcz40_3 hcz40_4 hcz40_5 hcz40_6 hcz40_7 hcz40_8 hcz40_9
           try clear hcz48_0 hcz48_1 hcz48_10 hcz48_11 hcz48_12 hcz48_2 hcz48_3 hcz48_4 hcz48_5 hcz48_6 hcz48_7 hcz48_8 hcz48_9
           try clear hcz49_0 hcz49_1 hcz49_10 hcz49_11 hcz49_12 hcz49_2 hcz49_3 hcz49_4 hcz49_5 hcz49_6 hcz49_7 hcz49_8 hcz49_9
           try clear hcz51_0 hcz51_1 hcz51_10 hcz51_11 hcz51_12 hcz51_2 hcz51_3 hcz51_4 hcz51_5 hcz51_6 hcz51_7 hcz51_8 hcz51_9
           try clear hcz52_0 hcz52_1 hcz52_10 hcz52_11 hcz52_12 hcz52_2 hcz52_3 hcz52_4 hcz52_5 hcz52_6 hcz52_7 hcz52_8 hcz52_9
           try clear hcz54_0 hcz54_1 hcz54_10 hcz54_11 hcz54_12 hcz54_2 hcz54_3 hcz54_4 hcz54_5 hcz54_6 hcz54_7 hcz54_8 hcz54_9
           try clear hcz55_0 hcz55_1 hcz55_10 hcz55_11 hcz55_12 hcz55_2 hcz55_3 hcz55_4 hcz55_5 hcz55_6 hcz55_7 hcz55_8 hcz55_9
           try clear hcz57_0 hcz57_1 hcz57_10 hcz57_11 hcz57_12 hcz57_2 hcz57_3 hcz57_4 hcz57_5 hcz57_6 hcz57_7 hcz57_8 hcz57_9
           try clear hcz58_0 hcz58_1 hcz58_10 hcz58_11 hcz58_12 hcz58_2 hcz58_3 hcz58_4 hcz58_5 hcz58_6 hcz58_7 hcz58_8 hcz58_9
           try clear hcz65_0 hcz65_1 hcz65_10 hcz65_11 hcz65_12 hcz65_2 hcz65_3 hcz65_4 hcz65_5 hcz65_6 hcz65_7 hcz65_8 hcz65_9
           try clear hcz66_0 hcz66_1 hcz66_10 hcz66_11 hcz66_12 hcz66_2 hcz66_3 hcz66_4 hcz66_5 hcz66_6 hcz66_7 hcz66_8 hcz66_9
           try clear hcz68_0 hcz68_1 hcz68_10 hcz68_11 hcz68_12 hcz68_2 hcz68_3 hcz68_4 hcz68_5 hcz68_6 hcz68_7 hcz68_8 hcz68_9
           try clear hcz69_0 hcz69_1 hcz69_10 hcz69_11 hcz69_12 hcz69_2 hcz69_3 hcz69_4 hcz69_5 hcz69_6 hcz69_7 hcz69_8 hcz69_9
           try clear hcz71_0 hcz71_1 hcz71_10 hcz71_11 hcz71_12 hcz71_2 hcz71_3 hcz71_4 hcz71_5 hcz71_6 hcz71_7 hcz71_8 hcz71_9
           try clear hx547_0
           try clear hx547_1
           try clear hx548_0
           try clear hx548_1
           try clear p2
           try clear p547
           try clear p548
           try clear q547
           try clear q548
           obtain ⟨x6_4, rfl, HA, HK4, BK544, BK545, HB⟩ := hrel
           cases gk with
           | zero => exact absurd HA.out (by simp [orchestratorref21_SameMeta.l1])
           | succ k4 =>
            have H := HA.out
            clear HA
            simp only [orchestratorref21_SameMeta.l1] at H
            by_cases c72 : x6_4 < (l0_10.length : Int)
            ·rw [if_pos c72] at H
             have c72b0 : decide (x6_4 < (l0_10.length : Int)) = true := decide_eq_true c72
             clear c72
             by_cases c73 : 0 ≤ x6_4
             ·rw [if_pos c73] at H
              have c73b0 : decide (0 ≤ x6_4) = true := decide_eq_true c73
              clear c73
              by_cases c74 : x6_4 < (l1_10.length : Int)
              ·rw [if_pos c74] at H
               have c74b0 : decide (x6_4 < (l1_10.length : Int)) = true := decide_eq_true c74
               clear c74
               by_cases c75 : (!((((rd_T62 l0_10 x6_4).f0).toList) == (((rd_T62 l1_10 x6_4).f0).toList)) || (!((((rd_T62 l0_10 x6_4).f1).toList) == (((rd_T62 l1_10 x6_4).f1).toList)) || (!(((rd_T62 l0_10 x6_4).f2) == ((rd_T62 l1_10 x6_4).f2)) || (!(((rd_T62 l0_10 x6_4).f3) == ((rd_T62 l1_10 x6_4).f3)) || (!(((rd_T62 l0_10 x6_4).f4) == ((rd_T62 l1_10 x6_4).f4))))))) = true
               ·rw [if_pos c75] at H
                have c75b0 : (!((((rd_T62 l0_10 x6_4).f0).toList) == (((rd_T62 l1_10 x6_4).f0).toList)) || (!((((rd_T62 l0_10 x6_4).f1).toList) == (((rd_T62 l1_10 x6_4).f1).toList)) || (!(((rd_T62 l0_10 x6_4).f2) == ((rd_T62 l1_10 x6_4).f2)) || (!(((rd_T62 l0_10 x6_4).f3) == ((rd_T62 l1_10 x6_4).f3)) || (!(((rd_T62 l0_10 x6_4).f4) == ((rd_T62 l1_10 x6_4).f4))))))) = true := c75
                clear c75
                obtain rfl := Option.some.inj H
                have hnb76 := NB544_545.out
                have hnc76 := NB545_544.out
                obtain ⟨hcz77_0, hcz77_1, hcz77_2, hcz77_3, hcz77_4, hcz77_5, hcz77_6, hcz77_7, hcz77_8, hcz77_9, hcz77_10, hcz77_11, hcz77_12⟩ := cells27 BK544.out
                have p549 : 0 ≤ (x6_4 : Int) := of_decide_eq_true (by first | (with_reducible assumption) | assumption)
                have q549 : x6_4 < (l0_10.length : Int) := of_decide_eq_true (by first | (with_reducible assumption) | assumption)
                obtain ⟨ad549, e549, hx549_0, hx549_1, hx549_2, hx549_3, hx549_4⟩ := at_T62 HR0_10.out x6_4 p549 q549
                cases e549
                replace hx549_0 := s_m HB.out hx549_0
                replace hx549_1 := s_m HB.out hx549_1
                replace hx549_2 := s_m HB.out hx549_2
                replace hx549_3 := s_m HB.out hx549_3
                replace hx549_4 := s_m HB.out hx549_4
                replace p549 := eq_true p549
                replace q549 := eq_true q549
                obtain ⟨hcz78_0, hcz78_1, hcz78_2, hcz78_3, hcz78_4, hcz78_5, hcz78_6, hcz78_7, hcz78_8, hcz78_9, hcz78_10, hcz78_11, hcz78_12⟩ := cells27 BK545.out
                have p550 : 0 ≤ (x6_4 : Int) := of_decide_eq_true (by first | (with_reducible assumption) | assumption)
                have q550 : x6_4 < (l1_10.length : Int) := of_decide_eq_true (by first | (with_reducible assumption) | assumption)
                obtain ⟨ad550, e550, hx550_0, hx550_1, hx550_2, hx550_3, hx550_4⟩ := at_T62 HR1_10.out x6_4 p550 q550
                cases e550
                replace hx550_0 := s_m HB.out hx550_0
                replace hx550_1 := s_m HB.out hx550_1
                replace hx550_2 := s_m HB.out hx550_2
                replace hx550_3 := s_m HB.out hx550_3
                replace hx550_4 := s_m HB.out hx550_4
                replace p550 := eq_true p550
                replace q550 := eq_true q550
                go_wp2
                repeat (go_quiet (fail); try go_wp2)
                go_ret
                exact ⟨by first | rfl | (simp [errW_none, errW_some] <;> rfl) | (simp [*, errW_none, errW_some] <;> rfl), by exact s_b HB.out⟩
               ·rw [if_neg c75] at H
                have c75b0 : (!((((rd_T62 l0_10 x6_4).f0).toList) == (((rd_T62 l1_10 x6_4).f0).toList)) || (!((((rd_T62 l0_10 x6_4).f1).toList) == (((rd_T62 l1_10 x6_4).f1).toList)) || (!(((rd_T62 l0_10 x6_4).f2) == ((rd_T62 l1_10 x6_4).f2)) || (!(((rd_T62 l0_10 x6_4).f3) == ((rd_T62 l1_10 x6_4).f3)) || (!(((rd_T62 l0_10 x6_4).f4) == ((rd_T62 l1_10 x6_4).f4))))))) = false := by simpa using c75
                clear c75
                have H' := s_a H
                clear H
                have hnb79 := NB544_545.out
                have hnc79 := NB545_544.out
                obtain ⟨hcz80_0, hcz80_1, hcz80_2, hcz80_3, hcz80_4, hcz80_5, hcz80_6, hcz80_7, hcz80_8, hcz80_9, hcz80_10, hcz80_11, hcz80_12⟩ := cells27 BK544.out
                have p549 : 0 ≤ (x6_4 : Int) := of_decide_eq_true (by first | (with_reducible assumption) | assumption)
                have q549 : x6_4 < (l0_10.length : Int) := of_decide_eq_true (by first | (with_reducible assumption) | assumption)
                obtain ⟨ad549, e549, hx549_0, hx549_1, hx549_2, hx549_3, hx549_4⟩ := at_T62 HR0_10.out x6_4 p549 q549
                cases e549
                replace hx549_0 := s_m HB.out hx549_0
                replace hx549_1 := s_m HB.out hx549_1
                replace hx549_2 := s_m HB.out hx549_2
                replace hx549_3 := s_m HB.out hx549_3
                replace hx549_4 := s_m HB.out hx549_4
                replace p549 := eq_true p549
                replace q549 := eq_true q549
                obtain ⟨hcz81_0, hcz81_1, hcz81_2, hcz81_3, hcz81_4, hcz81_5, hcz81_6, hcz81_7, hcz81_8, hcz81_9, hcz81_10, hcz81_11, hcz81_12⟩ := cells27 BK545.out
                have p550 : 0 ≤ (x6_4 : Int) := of_decide_eq_true (by first | (with_reducible assumption) | assumption)
                have q550 : x6_4 < (l1_10.length : Int) := of_decide_eq_true (by first | (with_reducible assumption) | assumption)
                obtain ⟨ad550, e550, hx550_0, hx550_1, hx550_2, hx550_3, hx550_4⟩ := at_T62 HR1_10.out x6_4 p550 q550
                cases e550
                replace hx550_0 := s_m HB.out hx550_0
                replace hx550_1 := s_m HB.out hx550_1
                replace hx550_2 := s_m HB.out hx550_2
                replace hx550_3 := s_m HB.out hx550_3
                replace hx550_4 := s_m HB.out hx550_4
                replace p550 := eq_true p550
                replace q550 := eq_true q550
                go_wp2
                repeat (go_quiet (fail); try go_wp2)
                go_roundg k4
                case measure => have := HJ2.out; have := HJ41.out; have := HK3.out; have := HK4.out; omega
                case rel => exact ⟨(wrap64 (x6_4 + 1)), (by first | rfl | (simp; done) | (simp [*]; done)), H', ⟨by have := HJ2.out; have := HJ41.out; have := HK3.out; have := HK4.out; omega⟩, ⟨by exact s_k BK544.out⟩, ⟨by exact s_k BK545.out⟩, ⟨by exact s_b HB.out⟩⟩
              ·rw [if_neg c74] at H
               exact absurd H (by simp)
             ·rw [if_neg c73] at H
              exact absurd H (by simp)
            ·rw [if_neg c72] at H
             have c72b0 : decide (x6_4 < (l0_10.length : Int)) = false := decide_eq_false c72
             clear c72
             have H' := s_a H
             clear H
             have hnb82 := NB544_545.out
             have hnc82 := NB545_544.out
             obtain ⟨hcz83_0, hcz83_1, hcz83_2, hcz83_3, hcz83_4, hcz83_5, hcz83_6, hcz83_7, hcz83_8, hcz83_9, hcz83_10, hcz83_11, hcz83_12⟩ := cells27 BK544.out
             go_wp2
             repeat (go_quiet (fail); try go_wp2)
             go_loopg [7] k4 (fun kq v7 w' => ∃ (x7_5 : Int), v7 = .int .i64 x7_5 ∧ Aside0 (orchestratorref21_SameMeta.l2 kq x7_5 a0_0 a0_1 a0_2 a0_3 a0_4 a0_5 a0_6 a0_7 a0_8 l0_9 l0_10 l0_11 l0_12 a1_0 a1_1 a1_2 a1_3 a1_4 a1_5 a1_6 a1_7 a1_8 l1_9 l1_10 l1_11 l1_12 = some r) ∧ Aside0 (kq ≤ k4) ∧ Aside0 (w'.heap[gb544]? = some (.cells #[.string a0_0, .string a0_1, .string a0_2, .int .i64 a0_3, .int .i64 a0_4, .int .i64 a0_5, .int .i64 a0_6, .bool a0_7, .int .i64 a0_8, (.slice A0_9 l0_9.length c0_9), (.slice A0_10 l0_10.length c0_10), (.slice A0_11 l0_11.length c0_11), (.slice A0_12 l0_12.length c0_12)] 27 (0, 0))) ∧ Aside0 (w'.heap[gb545]? = some (.cells #[.string a1_0, .string a1_1, .string a1_2, .int .i64 a1_3, .int .i64 a1_4, .int .i64 a1_5, .int .i64 a1_6, .bool a1_7, .int .i64 a1_8, (.slice A1_9 l1_9.length c1_9), (.slice A1_10 l1_10.length c1_10), (.slice A1_11 l1_11.length c1_11), (.slice A1_12 l1_12.length c1_12)] 27 (0, 0))) ∧ Aside0 (Below w.heap.size w w'))
             case atStart => exact ⟨(0), (by first | rfl | (simp; done) | (simp [*]; done)), H', ⟨Nat.le_refl _⟩, ⟨by exact s_k BK544.out⟩, ⟨by exact s_k BK545.out⟩, ⟨by exact s_b HB.out⟩⟩
             case round =>
              clear H'
              try clear c1
              try clear c2
              try clear p2
              try clear c3
              try clear c4
              try clear c5
              try clear p5
              try clear q5
              try clear hx5
              try clear c6
              try clear c6b0
              try clear c6b1
              try clear p6
              try clear c7
              try clear c7b0
              try clear c7b1
              try clear c8
              try clear c8b0
              try clear c8b1
              try clear c9
              try clear c9b0
              try clear c9b1
              try clear c10
              try clear c10b0
              try clear c10b1
              try clear c11
              try clear c11b0
              try clear c11b1
              try clear c12
              try clear c12b0
              try clear c12b1
              try clear c13
              try clear c13b0
              try clear c13b1
              try clear c13b2
              try clear c14
              try clear c17
              try clear c20
              try clear c21
              try clear c23
              try clear c26
              try clear c29
              try clear c32
              try clear c35
              try clear c38
              try clear c41
              try clear c43
              try clear c43b0
              try clear c43b1
              try clear c43b2
              try clear c44
              try clear c44b0
              try clear c44b1
              try clear c44b2
              try clear c46
              try clear c47
              try clear c50
              try clear c53
              try clear p54
              try clear q54
              try clear hx54
              try clear p55
              try clear q55
              try clear hx55
              try clear c56
              try clear c59
              try clear c60
              try clear c60b0
              try clear c61
              try clear c61b0
              try clear c62
              try clear c62b0
              try clear c63
              try clear c63b0
              try clear c64
              try clear p64
              try clear c67
              try clear c70
              try clear c72
              try clear c72b0
              try clear c73
              try clear c73b0
              try clear c74
              try clear c74b0
              try clear c75
              try clear c75b0
              try clear c76
              try clear c79
              try clear c82
              try clear hcz15_0 hcz15_1 hcz15_10 hcz15_11 hcz15_12 hcz15_2 hcz15_3 hcz15_4 hcz15_5 hcz15_6 hcz15_7 hcz15_8 hcz15_9
              try clear hcz16_0 hcz16_1 hcz16_10 hcz16_11 hcz16_12 hcz16_2 hcz16_3 hcz16_4 hcz16_5 hcz16_6 hcz16_7 hcz16_8 hcz16_9
              try clear hcz18_0 hcz18_1 hcz18_10 hcz18_11 hcz18_12 hcz18_2 hcz18_3 hcz18_4 hcz18_5 hcz18_6 hcz18_7 hcz18_8 hcz18_9
              try clear hcz19_0 hcz19_1 hcz19_10 hcz19_11 hcz19_12 hcz19_2 hcz19_3 hcz19_4 hcz19_5 hcz19_6 hcz19_7 hcz19_8 hcz19_9
              try clear hcz21_0 hcz21_1 hcz21_10 hcz21_11 hcz21_12 hcz21_2 hcz21_3 hcz21_4 hcz21_5 hcz21_6 hcz21_7 hcz21_8 hcz21_9
              try clear hcz22_0 hcz22_1 hcz22_10 hcz22_11 hcz22_12 hcz22_2 hcz22_3 hcz22_4 hcz22_5 hcz22_6 hcz22_7 hcz22_8 hcz22_9
              try clear hcz24_0 hcz24_1 hcz24_10 hcz24_11 hcz24_12 hcz24_2 hcz24_3 hcz24_4 hcz24_5 hcz24_6 hcz24_7 hcz24_8 hcz24_9
              try clear hcz25_0 hcz25_1 hcz25_10 hcz25_11 hcz25_12 hcz25_2 hcz25_3 hcz25_4 hcz25_5 hcz25_6 hcz25_7 hcz25_8 hcz25_9
              try clear hcz27_0 hcz27_1 hcz27_10 hcz27_11 hcz27_12 hcz27_2 hcz27_3 hcz27_4 hcz27_5 hcz27_6 hcz27_7 hcz27_8 hcz27_9
              try clear hcz28_0 hcz28_1 hcz28_10 hcz28_11 hcz28_12 hcz28_2 hcz28_3 hcz28_4 hcz28_5 hcz28_6 hcz28_7 hcz28_8 hcz28_9
              try clear hcz30_0 hcz30_1 hcz30_10 hcz30_11 hcz30_12 hcz30_2 hcz30_3 hcz30_4 hcz30_5 hcz30_6 hcz30_7 hcz30_8 hcz30_9
              try clear hcz31_0 hcz31_1 hcz31_10 hcz31_11 hcz31_12 hcz31_2 hcz31_3 hcz31_4 hcz31_5 hcz31_6 hcz31_7 hcz31_8 hcz31_9
              try clear hcz33_0 hcz33_1 hcz33_10 hcz33_11 hcz33_12 hcz33_2 hcz33_3 hcz33_4 hcz33_5 hcz33_6 hcz33_7 hcz33_8 hcz33_9
              try clear hcz34_0 hcz34_1 hcz34_10 hcz34_11 hcz34_12 hcz34_2 hcz34_3 hcz34_4 hcz34_5 hcz34_6 hcz34_7 hcz34_8 hcz34_9
              try clear hcz36_0 hcz36_1 hcz36_10 hcz36_11 hcz36_12 hcz36_2 hcz36_3 hcz36_4 hcz36_5 hcz36_6 hcz36_7 hcz36_8 hcz36_9
              try clear hcz37_0 hcz37_1 hcz37_10 hcz37_11 hcz37_12 hcz37_2 hcz37_3 hcz37_4 hcz37_5 hcz37_6 hcz37_7 hcz37_8 hcz37_9
              try clear hcz39_0 hcz39_1 hcz39_10 hcz39_11 hcz39_12 hcz39_2 hcz39_3 hcz39_4 hcz39_5 hcz39_6 hcz39_7 hcz39_8 hcz39_9
              try clear hcz40_0 hcz40_1 hcz40_10 hcz40_11 hcz40_12 hcz40_2 hcz40_3 hcz40_4 hcz40_5 hcz40_6 hcz40_7 hcz40_8 hcz40_9
              try clear hcz48_0 hcz48_1 hcz48_10 hcz48_11 hcz48_12 hcz48_2 hcz48_3 hcz48_4 hcz48_5 hcz48_6 hcz48_7 hcz48_8 hcz48_9
              try clear hcz49_0 hcz49_1 hcz49_10 hcz49_11 hcz49_12 hcz49_2 hcz49_3 hcz49_4 hcz49_5 hcz49_6 hcz49_7 hcz49_8 hcz49_9
              try clear hcz51_0 hcz51_1 hcz51_10 hcz51_11 hcz51_12 hcz51_2 hcz51_3 hcz51_4 hcz51_5 hcz51_6 hcz51_7 hcz51_8 hcz51_9
              try clear hcz52_0 hcz52_1 hcz52_10 hcz52_11 hcz52_12 hcz52_2 hcz52_3 hcz52_4 hcz52_5 hcz52_6 hcz52_7 hcz52_8 hcz52_9
              try clear hcz54_0 hcz54_1 hcz54_10 hcz54_11 hcz54_12 hcz54_2 hcz54_3 hcz54_4 hcz54_5 hcz54_6 hcz54_7 hcz54_8 hcz54_9
              try clear hcz55_0 hcz55_1 hcz55_10 hcz55_11 hcz55_12 hcz55_2 hcz55_3 hcz55_4 hcz55_5 hcz55_6 hcz55_7 hcz55_8 hcz55_9
              try clear hcz57_0 hcz57_1 hcz57_10 hcz57_11 hcz57_12 hcz57_2 hcz57_3 hcz57_4 hcz57_5 hcz57_6 hcz57_7 hcz57_8 hcz57_9
              try clear hcz58_0 hcz58_1 hcz58_10 hcz58_11 hcz58_12 hcz58_2 hcz58_3 hcz58_4 hcz58_5 hcz58_6 hcz58_7 hcz58_8 hcz58_9
              try clear hcz65_0 hcz65_1 hcz65_10 hcz65_11 hcz65_12 hcz65_2 hcz65_3 hcz65_4 hcz65_5 hcz65_6 hcz65_7 hcz65_8 hcz65_9
              try clear hcz66_0 hcz66_1 hcz66_10 hcz66_11 hcz66_12 hcz66_2 hcz66_3 hcz66_4 hcz66_5 hcz66_6 hcz66_7 hcz66_8 hcz66_9
              try clear hcz68_0 hcz68_1 hcz68_10 hcz68_11 hcz68_12 hcz68_2 hcz68_3 hcz68_4 hcz68_5 hcz68_6 hcz68_7 hcz68_8 hcz68_9
              try clear hcz69_0 hcz69_1 hcz69_10 hcz69_11 hcz69_12 hcz69_2 hcz69_3 hcz69_4 hcz69_5 hcz69_6 hcz69_7 hcz69_8 hcz69_9
              try clear hcz71_0 hcz71_1 hcz71_10 hcz71_11 hcz71_12 hcz71_2 hcz71_3 hcz71_4 hcz71_5 hcz71_6 hcz71_7 hcz71_8 hcz71_9
              try clear hcz77_0 hcz77_1 hcz77_10 hcz77_11 hcz77_12 hcz77_2 hcz77_3 hcz77_4 hcz77_5 hcz77_6 hcz77_7 hcz77_8 hcz77_9
              try clear hcz78_0 hcz78_1 hcz78_10 hcz78_11 hcz78_12 hcz78_2 hcz78_3 hcz78_4 hcz78_5 hcz78_6 hcz78_7 hcz78_8 hcz78_9
              try clear hcz80_0 hcz80_1 hcz80_10 hcz80_11 hcz80_12 hcz80_2 hcz80_3 hcz80_4 hcz80_5 hcz80_6 hcz80_7 hcz80_8 hcz80_9
              try clear hcz81_0 hcz81_1 hcz81_10 hcz81_11 hcz81_12 hcz81_2 hcz81_3 hcz81_4 hcz81_5 hcz81_6 hcz81_7 hcz81_8 hcz81_9
              try clear hcz83_0 hcz83_1 hcz83_10 hcz83_11 hcz83_12 hcz83_2 hcz83_3 hcz83_4 hcz83_5 hcz83_6 hcz83_7 hcz83_8 hcz83_9
              try clear hx547_0
              try clear hx547_1
              try clear hx548_0
              try clear hx548_1
              try clear hx549_0
              try clear hx549_1
              try clear hx549_2
              try clear hx549_3
              try clear hx549_4
              try clear hx550_0
              try clear hx550_1
              try clear hx550_2
              try clear hx550_3
              try clear hx550_4
              try clear p2
              try clear p5
              try clear p54
              try clear p547
              try clear p548
              try clear p549
              try clear p550
              try clear p6
              try clear p64
              try clear q5
              try clear q54
              try clear q547
              try clear q548
              try clear q549
              try clear q550
              obtain ⟨x7_5, rfl, HA, HK5, BK544, BK545, HB⟩ := hrel
              cases gk with
              | zero => exact absurd HA.out (by simp [orchestratorref21_SameMeta.l2])
              | succ k5 =>
               have H := HA.out
               clear HA
               simp only [orchestratorref21_SameMeta.l2] at H
               by_cases c84 : x7_5 < (l0_12.length : Int)
               ·rw [if_pos c84] at H
                have c84b0 : decide (x7_5 < (l0_12.length : Int)) = true := decide_eq_true c84
                clear c84
                by_cases c85 : 0 ≤ x7_5
                ·rw [if_pos c85] at H
                 have c85b0 : decide (0 ≤ x7_5) = true := decide_eq_true c85
                 clear c85
                 by_cases c86 : x7_5 < (l1_12.length : Int)
                 ·rw [if_pos c86] at H
                  have c86b0 : decide (x7_5 < (l1_12.length : Int)) = true := decide_eq_true c86
                  clear c86
                  by_cases c87 : ((rd_T66 l0_12 x7_5).f0).toList = ((rd_T66 l1_12 x7_5).f0).toList
                  ·rw [if_pos c87] at H
                   have c87b0 : (((rd_T66 l0_12 x7_5).f0).toList == ((rd_T66 l1_12 x7_5).f0).toList) = true := beq_iff_eq.mpr c87
                   have c87b1 : (((rd_T66 l0_12 x7_5).f0).toList != ((rd_T66 l1_12 x7_5).f0).toList) = false := bne_eq_false_iff_eq.mpr c87
                   clear c87
                   replace H := Option.bind_eq_some_iff.mp H
                   obtain ⟨t555, A880, H⟩ := H
                   replace H : (if t555 = true then (orchestratorref21_SameMeta.l2 k5 (wrap64 (x7_5 + 1)) a0_0 a0_1 a0_2 a0_3 a0_4 a0_5 a0_6 a0_7 a0_8 l0_9 l0_10 l0_11 l0_12 a1_0 a1_1 a1_2 a1_3 a1_4 a1_5 a1_6 a1_7 a1_8 l1_9 l1_10 l1_11 l1_12) else (some false)) = some r := H
                   have A88 := s_a A880
                   clear A880
                   by_cases c89 : t555 = true
                   ·subst c89
                    (try rw [if_pos rfl] at H)
                    have H' := s_a H
                    clear H
                    have hnb90 := NB544_545.out
                    have hnc90 := NB545_544.out
                    obtain ⟨hcz91_0, hcz91_1, hcz91_2, hcz91_3, hcz91_4, hcz91_5, hcz91_6, hcz91_7, hcz91_8, hcz91_9, hcz91_10, hcz91_11, hcz91_12⟩ := cells27 BK544.out
                    have p551 : 0 ≤ (x7_5 : Int) := of_decide_eq_true (by first | (with_reducible assumption) | assumption)
                    have q551 : x7_5 < (l0_12.length : Int) := of_decide_eq_true (by first | (with_reducible assumption) | assumption)
                    obtain ⟨ad551, A551_1, c551_1, e551, hx551_0, hx551_1, hl551_1, hi551_1⟩ := at_T66 HR0_12.out x7_5 p551 q551
                    cases e551
                    replace hx551_0 := s_m HB.out hx551_0
                    replace hx551_1 := s_m HB.out hx551_1
                    have HR551_1 := s_a hi551_1
                    have HC551_1 := s_a hl551_1
                    clear hi551_1 hl551_1
                    replace p551 := eq_true p551
                    replace q551 := eq_true q551
                    obtain ⟨hcz92_0, hcz92_1, hcz92_2, hcz92_3, hcz92_4, hcz92_5, hcz92_6, hcz92_7, hcz92_8, hcz92_9, hcz92_10, hcz92_11, hcz92_12⟩ := cells27 BK545.out
                    have p552 : 0 ≤ (x7_5 : Int) := of_decide_eq_true (by first | (with_reducible assumption) | assumption)
                    have q552 : x7_5 < (l1_12.length : Int) := of_decide_eq_true (by first | (with_reducible assumption) | assumption)
                    obtain ⟨ad552, A552_1, c552_1, e552, hx552_0, hx552_1, hl552_1, hi552_1⟩ := at_T66 HR1_12.out x7_5 p552 q552
                    cases e552
                    replace hx552_0 := s_m HB.out hx552_0
                    replace hx552_1 := s_m HB.out hx552_1
                    have HR552_1 := s_a hi552_1
                    have HC552_1 := s_a hl552_1
                    clear hi552_1 hl552_1
                    replace p552 := eq_true p552
                    replace q552 := eq_true q552
                    have p553 : 0 ≤ (x7_5 : Int) := of_decide_eq_true (by first | (with_reducible assumption) | assumption)
                    have q553 : x7_5 < (l0_12.length : Int) := of_decide_eq_true (by first | (with_reducible assumption) | assumption)
                    obtain ⟨ad553, A553_1, c553_1, e553, hx553_0, hx553_1, hl553_1, hi553_1⟩ := at_T66 HR0_12.out x7_5 p553 q553
                    obtain rfl : ad551 = ad553 := (by injection e553)
                    replace hx553_0 := s_m HB.out hx553_0
                    replace hx553_1 := s_m HB.out hx553_1
                    have HR553_1 := s_a hi553_1
                    have HC553_1 := s_a hl553_1
                    clear hi553_1 hl553_1
                    replace p553 := eq_true p553
                    replace q553 := eq_true q553
                    have ea_ := Option.some.inj (hx551_1.symm.trans hx553_1)
                    injection ea_ with ea_ en_ ec_
                    subst ea_
                    subst ec_
                    clear en_
                    have p554 : 0 ≤ (x7_5 : Int) := of_decide_eq_true (by first | (with_reducible assumption) | assumption)
                    have q554 : x7_5 < (l1_12.length : Int) := of_decide_eq_true (by first | (with_reducible assumption) | assumption)
                    obtain ⟨ad554, A554_1, c554_1, e554, hx554_0, hx554_1, hl554_1, hi554_1⟩ := at_T66 HR1_12.out x7_5 p554 q554
                    obtain rfl : ad552 = ad554 := (by injection e554)
                    replace hx554_0 := s_m HB.out hx554_0
                    replace hx554_1 := s_m HB.out hx554_1
                    have HR554_1 := s_a hi554_1
                    have HC554_1 := s_a hl554_1
                    clear hi554_1 hl554_1
                    replace p554 := eq_true p554
                    replace q554 := eq_true q554
                    have ea_ := Option.some.inj (hx552_1.symm.trans hx554_1)
                    injection ea_ with ea_ en_ ec_
                    subst ea_
                    subst ec_
                    clear en_
                    go_wp2_with (first | (go_at_call 31; (with_reducible refine (orchestratorref21_Strings.calls k5 _ _ _ _ _ _ _ _ ?side1 ?side2 ?side3 ?side4 A88.out).mono ?_); (case side1 => exact s_D HR553_1.out HB.out); (case side2 => exact HC553_1.out); (case side3 => exact s_D HR554_1.out HB.out); (case side4 => exact HC554_1.out); rintro e w' ⟨rfl, ⟨nd, rfl⟩⟩; (try first | exact ⟨rfl, _, World.drewN_drewN _ _ _⟩ | exact ⟨rfl, _, Eq.trans (World.drewN_drewN _ _ _) (congrArg (World.drewN _) (Nat.add_assoc _ _ _))⟩)))
                    repeat (go_quiet (first | (go_at_call 31; (with_reducible refine (orchestratorref21_Strings.calls k5 _ _ _ _ _ _ _ _ ?side1 ?side2 ?side3 ?side4 A88.out).mono ?_); (case side1 => exact s_D HR553_1.out HB.out); (case side2 => exact HC553_1.out); (case side3 => exact s_D HR554_1.out HB.out); (case side4 => exact HC554_1.out); rintro e w' ⟨rfl, ⟨nd, rfl⟩⟩; (try first | exact ⟨rfl, _, World.drewN_drewN _ _ _⟩ | exact ⟨rfl, _, Eq.trans (World.drewN_drewN _ _ _) (congrArg (World.drewN _) (Nat.add_assoc _ _ _))⟩))); try go_wp2_with (first | (go_at_call 31; (with_reducible refine (orchestratorref21_Strings.calls k5 _ _ _ _ _ _ _ _ ?side1 ?side2 ?side3 ?side4 A88.out).mono ?_); (case side1 => exact s_D HR553_1.out HB.out); (case side2 => exact HC553_1.out); (case side3 => exact s_D HR554_1.out HB.out); (case side4 => exact HC554_1.out); rintro e w' ⟨rfl, ⟨nd, rfl⟩⟩; (try first | exact ⟨rfl, _, World.drewN_drewN _ _ _⟩ | exact ⟨rfl, _, Eq.trans (World.drewN_drewN _ _ _) (congrArg (World.drewN _) (Nat.add_assoc _ _ _))⟩))))
                    go_roundg k5
                    case measure => have := HJ2.out; have := HJ41.out; have := HK3.out; have := HK4.out; have := HK5.out; omega
                    case rel => exact ⟨(wrap64 (x7_5 + 1)), (by first | rfl | (simp; done) | (simp [*]; done)), H', ⟨by have := HJ2.out; have := HJ41.out; have := HK3.out; have := HK4.out; have := HK5.out; omega⟩, ⟨by exact s_k BK544.out⟩, ⟨by exact s_k BK545.out⟩, ⟨by exact s_b HB.out⟩⟩
                   ·replace c89 := Bool.eq_false_iff.mpr c89
                    subst c89
                    (try rw [if_neg (show ¬ (false = true) by decide)] at H)
                    obtain rfl := Option.some.inj H
                    have hnb93 := NB544_545.out
                    have hnc93 := NB545_544.out
                    obtain ⟨hcz94_0, hcz94_1, hcz94_2, hcz94_3, hcz94_4, hcz94_5, hcz94_6, hcz94_7, hcz94_8, hcz94_9, hcz94_10, hcz94_11, hcz94_12⟩ := cells27 BK544.out
                    have p551 : 0 ≤ (x7_5 : Int) := of_decide_eq_true (by first | (with_reducible assumption) | assumption)
                    have q551 : x7_5 < (l0_12.length : Int) := of_decide_eq_true (by first | (with_reducible assumption) | assumption)
                    obtain ⟨ad551, A551_1, c551_1, e551, hx551_0, hx551_1, hl551_1, hi551_1⟩ := at_T66 HR0_12.out x7_5 p551 q551
                    cases e551
                    replace hx551_0 := s_m HB.out hx551_0
                    replace hx551_1 := s_m HB.out hx551_1
                    have HR551_1 := s_a hi551_1
                    have HC551_1 := s_a hl551_1
                    clear hi551_1 hl551_1
                    replace p551 := eq_true p551
                    replace q551 := eq_true q551
                    obtain ⟨hcz95_0, hcz95_1, hcz95_2, hcz95_3, hcz95_4, hcz95_5, hcz95_6, hcz95_7, hcz95_8, hcz95_9, hcz95_10, hcz95_11, hcz95_12⟩ := cells27 BK545.out
                    have p552 : 0 ≤ (x7_5 : Int) := of_decide_eq_true (by first | (with_reducible assumption) | assumption)
                    have q552 : x7_5 < (l1_12.length : Int) := of_decide_eq_true (by first | (with_reducible assumption) | assumption)
                    obtain ⟨ad552, A552_1, c552_1, e552, hx552_0, hx552_1, hl552_1, hi552_1⟩ := at_T66 HR1_12.out x7_5 p552 q552
                    cases e552
                    replace hx552_0 := s_m HB.out hx552_0
                    replace hx552_1 := s_m HB.out hx552_1
                    have HR552_1 := s_a hi552_1
                    have HC552_1 := s_a hl552_1
                    clear hi552_1 hl552_1
                    replace p552 := eq_true p552
                    replace q552 := eq_true q552
                    have p553 : 0 ≤ (x7_5 : Int) := of_decide_eq_true (by first | (with_reducible assumption) | assumption)
                    have q553 : x7_5 < (l0_12.length : Int) := of_decide_eq_true (by first | (with_reducible assumption) | assumption)
                    obtain ⟨ad553, A553_1, c553_1, e553, hx553_0, hx553_1, hl553_1, hi553_1⟩ := at_T66 HR0_12.out x7_5 p553 q553
                    obtain rfl : ad551 = ad553 := (by injection e553)
                    replace hx553_0 := s_m HB.out hx553_0
                    replace hx553_1 := s_m HB.out hx553_1
                    have HR553_1 := s_a hi553_1
                    have HC553_1 := s_a hl553_1
                    clear hi553_1 hl553_1
                    replace p553 := eq_true p553
                    replace q553 := eq_true q553
                    have ea_ := Option.some.inj (hx551_1.symm.trans hx553_1)
                    injection ea_ with ea_ en_ ec_
                    subst ea_
                    subst ec_
                    clear en_
                    have p554 : 0 ≤ (x7_5 : Int) := of_decide_eq_true (by first | (with_reducible assumption) | assumption)
                    have q554 : x7_5 < (l1_12.length : Int) := of_decide_eq_true (by first | (with_reducible assumption) | assumption)
                    obtain ⟨ad554, A554_1, c554_1, e554, hx554_0, hx554_1, hl554_1, hi554_1⟩ := at_T66 HR1_12.out x7_5 p554 q554
                    obtain rfl : ad552 = ad554 := (by injection e554)
                    replace hx554_0 := s_m HB.out hx554_0
                    replace hx554_1 := s_m HB.out hx554_1
                    have HR554_1 := s_a hi554_1
                    have HC554_1 := s_a hl554_1
                    clear hi554_1 hl554_1
                    replace p554 := eq_true p554
                    replace q554 := eq_true q554
                    have ea_ := Option.some.inj (hx552_1.symm.trans hx554_1)
                    injection ea_ with ea_ en_ ec_
                    subst ea_
                    subst ec_
                    clear en_
                    go_wp2_with (first | (go_at_call 31; (with_reducible refine (orchestratorref21_Strings.calls k5 _ _ _ _ _ _ _ _ ?side1 ?side2 ?side3 ?side4 A88.out).mono ?_); (case side1 => exact s_D HR553_1.out HB.out); (case side2 => exact HC553_1.out); (case side3 => exact s_D HR554_1.out HB.out); (case side4 => exact HC554_1.out); rintro e w' ⟨rfl, ⟨nd, rfl⟩⟩; (try first | exact ⟨rfl, _, World.drewN_drewN _ _ _⟩ | exact ⟨rfl, _, Eq.trans (World.drewN_drewN _ _ _) (congrArg (World.drewN _) (Nat.add_assoc _ _ _))⟩)))
                    repeat (go_quiet (first | (go_at_call 31; (with_reducible refine (orchestratorref21_Strings.calls k5 _ _ _ _ _ _ _ _ ?side1 ?side2 ?side3 ?side4 A88.out).mono ?_); (case side1 => exact s_D HR553_1.out HB.out); (case side2 => exact HC553_1.out); (case side3 => exact s_D HR554_1.out HB.out); (case side4 => exact HC554_1.out); rintro e w' ⟨rfl, ⟨nd, rfl⟩⟩; (try first | exact ⟨rfl, _, World.drewN_drewN _ _ _⟩ | exact ⟨rfl, _, Eq.trans (World.drewN_drewN _ _ _) (congrArg (World.drewN _) (Nat.add_assoc _ _ _))⟩))); try go_wp2_with (first | (go_at_call 31; (with_reducible refine (orchestratorref21_Strings.calls k5 _ _ _ _ _ _ _ _ ?side1 ?side2 ?side3 ?side4 A88.out).mono ?_); (case side1 => exact s_D HR553_1.out HB.out); (case side2 => exact HC553_1.out); (case side3 => exact s_D HR554_1.out HB.out); (case side4 => exact HC554_1.out); rintro e w' ⟨rfl, ⟨nd, rfl⟩⟩; (try first | exact ⟨rfl, _, World.drewN_drewN _ _ _⟩ | exact ⟨rfl, _, Eq.trans (World.drewN_drewN _ _ _) (congrArg (World.drewN _) (Nat.add_assoc _ _ _))⟩))))
                    go_ret
                    exact ⟨by first | rfl | (simp [errW_none, errW_some] <;> rfl) | (simp [*, errW_none, errW_some] <;> rfl), by exact s_b HB.out⟩
                  ·rw [if_neg c87] at H
                   have c87b0 : (((rd_T66 l0_12 x7_5).f0).toList == ((rd_T66 l1_12 x7_5).f0).toList) = false := beq_eq_false_iff_ne.mpr c87
                   have c87b1 : (((rd_T66 l0_12 x7_5).f0).toList != ((rd_T66 l1_12 x7_5).f0).toList) = true := bne_iff_ne.mpr c87
                   obtain rfl := Option.some.inj H
                   have hnb96 := NB544_545.out
                   have hnc96 := NB545_544.out
                   obtain ⟨hcz97_0, hcz97_1, hcz97_2, hcz97_3, hcz97_4, hcz97_5, hcz97_6, hcz97_7, hcz97_8, hcz97_9, hcz97_10, hcz97_11, hcz97_12⟩ := cells27 BK544.out
                   have p551 : 0 ≤ (x7_5 : Int) := of_decide_eq_true (by first | (with_reducible assumption) | assumption)
                   have q551 : x7_5 < (l0_12.length : Int) := of_decide_eq_true (by first | (with_reducible assumption) | assumption)
                   obtain ⟨ad551, A551_1, c551_1, e551, hx551_0, hx551_1, hl551_1, hi551_1⟩ := at_T66 HR0_12.out x7_5 p551 q551
                   cases e551
                   replace hx551_0 := s_m HB.out hx551_0
                   replace hx551_1 := s_m HB.out hx551_1
                   have HR551_1 := s_a hi551_1
                   have HC551_1 := s_a hl551_1
                   clear hi551_1 hl551_1
                   replace p551 := eq_true p551
                   replace q551 := eq_true q551
                   obtain ⟨hcz98_0, hcz98_1, hcz98_2, hcz98_3, hcz98_4, hcz98_5, hcz98_6, hcz98_7, hcz98_8, hcz98_9, hcz98_10, hcz98_11, hcz98_12⟩ := cells27 BK545.out
                   have p552 : 0 ≤ (x7_5 : Int) := of_decide_eq_true (by first | (with_reducible assumption) | assumption)
                   have q552 : x7_5 < (l1_12.length : Int) := of_decide_eq_true (by first | (with_reducible assumption) | assumption)
                   obtain ⟨ad552, A552_1, c552_1, e552, hx552_0, hx552_1, hl552_1, hi552_1⟩ := at_T66 HR1_12.out x7_5 p552 q552
                   cases e552
                   replace hx552_0 := s_m HB.out hx552_0
                   replace hx552_1 := s_m HB.out hx552_1
                   have HR552_1 := s_a hi552_1
                   have HC552_1 := s_a hl552_1
                   clear hi552_1 hl552_1
                   replace p552 := eq_true p552
                   replace q552 := eq_true q552
                   go_wp2
                   repeat (go_quiet (fail); try go_wp2)
                   go_ret
                   exact ⟨by first | rfl | (simp [errW_none, errW_some] <;> rfl) | (simp [*, errW_none, errW_some] <;> rfl), by exact s_b HB.out⟩
                 ·rw [if_neg c86] at H
                  exact absurd H (by simp)
                ·rw [if_neg c85] at H
                 exact absurd H (by simp)
               ·rw [if_neg c84] at H
                have c84b0 : decide (x7_5 < (l0_12.length : Int)) = false := decide_eq_false c84
                clear c84
                obtain rfl := Option.some.inj H
                have hnb99 := NB544_545.out
                have hnc99 := NB545_544.out
                obtain ⟨hcz100_0, hcz100_1, hcz100_2, hcz100_3, hcz100_4, hcz100_5, hcz100_6, hcz100_7, hcz100_8, hcz100_9, hcz100_10, hcz100_11, hcz100_12⟩ := cells27 BK544.out
                go_wp2
                repeat (go_quiet (fail); try go_wp2)
                go_ret
                exact ⟨by first | rfl | (simp [errW_none, errW_some] <;> rfl) | (simp [*, errW_none, errW_some] <;> rfl), by exact s_b HB.out⟩
end Go.Proofs.Ythkdpkgkejdcgaa.Q
