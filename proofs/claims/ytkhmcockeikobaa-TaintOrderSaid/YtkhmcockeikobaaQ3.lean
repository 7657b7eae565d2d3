/- Printed by a program of this claim's author (pp.py): Lean functions for the Go functions, and the proofs that the machine comes to them. -/
import Derived.Test.YtkhmcockeikobaaQ0
import Derived.Test.YtkhmcockeikobaaQ1
import Derived.Test.YtkhmcockeikobaaQ2
namespace Go.Proofs.Ytkhmcockeikobaa.Q
open Go.RowKit Go.Proofs.YtkhmcockeikobaaW.PrintWords Go.Proofs.YtkhmcockeikobaaW.PrintLast Go.Proofs.YtkhmcockeikobaaW.PrintMore
attribute [local go_sem] max2_int min2_int max_two min_two max_three min_three max_four min_four   -- for this text's walks alone
set_option linter.unusedVariables false
set_option linter.unusedSimpArgs false

/-! ### orchestratorlaw35_lives: function 8 -/
def orchestratorlaw35_lives.f (k : Nat)  : Option (Bool) := (some (([(⟨(⟨#[103, 112, 117]⟩ : ByteArray), (⟨#[121, 101, 115]⟩ : ByteArray), 1, 0⟩ : S25), (⟨(⟨#[115, 108, 111, 119]⟩ : ByteArray), (⟨#[]⟩ : ByteArray), 2, 0⟩ : S25)] : List (S25)) : List (S25))).bind fun y139 => ((some (([(⟨(⟨#[100, 111, 119, 110]⟩ : ByteArray), (⟨#[]⟩ : ByteArray), 3, 100⟩ : S25)] : List (S25)) : List (S25))).bind fun y142 => ((some (([(⟨(⟨#[100, 111, 119, 110]⟩ : ByteArray), (⟨#[]⟩ : ByteArray), true, 0, 60⟩ : S23), (⟨(⟨#[100, 111, 119, 110]⟩ : ByteArray), (⟨#[]⟩ : ByteArray), false, 0, 30⟩ : S23)] : List (S23)) : List (S23))).bind fun y145 => ((taint_EvictAt.f k y142 y145).bind fun bt148 => ((taint_EvictAt.f k y142 ([] : List (S23))).bind fun bt150 => ((taint_Blocks.f k y139 ([] : List (S23))).bind fun t152 => (if t152 = true then ((taint_Blocks.f k y139 (([(⟨(⟨#[103, 112, 117]⟩ : ByteArray), (⟨#[121, 101, 115]⟩ : ByteArray), false, 0, 0⟩ : S23)] : List (S23)))).bind fun t156 => (if t156 = true then (some false) else ((taint_Soft.f k y139 ([] : List (S23))).bind fun t157 => (if t157 = 1 then (if 1 < (y145.length : Int) then (if 0 < (y142.length : Int) then ((taint_Tolerates.f ((rd_T23 y145 1).f0) ((rd_T23 y145 1).f1) ((rd_T23 y145 1).f2) ((rd_T23 y145 1).f3) ((rd_T23 y145 1).f4) ((rd_T25 y142 0).f0) ((rd_T25 y142 0).f1) ((rd_T25 y142 0).f2) ((rd_T25 y142 0).f3)).bind fun t160 => (if t160 = true then (if 0 < (y139.length : Int) then ((taint_Tolerates.f ((rd_T23 y145 1).f0) ((rd_T23 y145 1).f1) ((rd_T23 y145 1).f2) ((rd_T23 y145 1).f3) ((rd_T23 y145 1).f4) ((rd_T25 y139 0).f0) ((rd_T25 y139 0).f1) ((rd_T25 y139 0).f2) ((rd_T25 y139 0).f3)).bind fun t163 => (if t163 = true then (some false) else (if bt148.1 = 130 then (if bt148.2 = true then (if bt150.1 = 100 then (if bt150.2 = true then (some true) else (some false)) else (some false)) else (some false)) else (some false)))) else (none)) else (some false))) else (none)) else (none)) else (some false))))) else (some false)))))))
theorem orchestratorlaw35_lives.mono : ∀ k, LeO (orchestratorlaw35_lives.f k ) (orchestratorlaw35_lives.f (k + 1) ) := by
  intro  k
  unfold orchestratorlaw35_lives.f
  repeat' first
      | (with_reducible exact taint_Blocks.mono _ _ _)
      | (with_reducible exact taint_EvictAt.mono _ _ _)
      | (with_reducible exact taint_Soft.mono _ _ _)
      | (with_reducible exact LeO.refl _)
      | (with_reducible exact LeO.none _)
      | (with_reducible refine LeO.ite ?_ ?_)
      | (with_reducible refine LeO.bind ?_ (fun _ => ?_))
      | exact taint_Blocks.mono _ _ _
      | exact taint_EvictAt.mono _ _ _
      | exact taint_Soft.mono _ _ _
      | exact LeO.none _
      | refine LeO.ite ?_ ?_
      | refine LeO.bind ?_ (fun _ => ?_)
def orchestratorlaw35_lives.T6 : Bool × List (List Nat × List Nat) := (true, [([], []), ([0], [0]), ([1, 1], [1]), ([2], [2]), ([2], [2]), ([4, 2], [2, 4]), ([3, 5, 2, 2], [2, 3, 5]), ([6, 2], [2, 6]), ([2, 7], [2, 7]), ([8, 6], [8]), ([9], [9]), ([10, 9, 9], [9, 10]), ([11, 9], [9, 11]), ([9, 12], [9, 12]), ([13, 11], [13]), ([14], [14]), ([15, 14], [14, 15]), ([16, 14], [14, 16]), ([14], [14]), ([18, 14], [14, 18]), ([19, 14], [14, 19]), ([17, 20, 14, 14], [14, 17, 20]), ([14, 21], [14, 21]), ([22, 21], [22]), ([23], [23]), ([24, 23], [23, 24]), ([25, 23], [23, 25]), ([23], [23]), ([27, 23], [23, 27]), ([28, 23], [23, 28]), ([26, 29, 23, 23], [23, 26, 29]), ([30, 23], [23, 30]), ([23, 31], [23, 31]), ([32, 30], [32]), ([33], [33]), ([34, 33], [33, 34]), ([33, 35], [33, 35]), ([36, 33], [36]), ([37], [37]), ([37, 38], [37, 38]), ([39, 37], [39]), ([40], [40]), ([41, 40], [40, 41]), ([40, 42], [40, 42]), ([43, 40], [43]), ([44], [44]), ([44, 45], [44, 45]), ([46, 44, 0, 1, 2, 3, 4, 5, 6, 7, 8, 9, 10, 11, 12, 13, 14, 15, 16, 17, 18, 19, 20, 21, 22, 23, 24, 25, 26, 27, 28, 29, 30, 31, 32, 33, 34, 35, 36, 37, 38, 39, 40, 41, 42, 43, 44, 45, 46], [46])])
def orchestratorlaw35_lives.B6 : List Nat := [0, 1, 3, 7, 7, 23, 63, 127, 255, 511, 1023, 2047, 4095, 8191, 16383, 32767, 65535, 131071, 32767, 294911, 819199, 2097151, 4194303, 8388607, 16777215, 33554431, 67108863, 16777215, 150994943, 419430399, 1073741823, 2147483647, 4294967295, 8589934591, 17179869183, 34359738367, 68719476735, 137438953471, 274877906943, 549755813887, 1099511627775, 2199023255551, 4398046511103, 8796093022207, 17592186044415, 35184372088831, 70368744177663, 140737488355327]
theorem orchestratorlaw35_lives.tab6 : rtab .any (opsOf Try.f8 6) = orchestratorlaw35_lives.T6 := by kernel_rfl
theorem orchestratorlaw35_lives.bits6 : waitsOk orchestratorlaw35_lives.T6.2 orchestratorlaw35_lives.B6 = true := by kernel_rfl
set_option maxHeartbeats 8000000 in
set_option maxRecDepth 100000 in
theorem orchestratorlaw35_lives.calls (k : Nat)  (w : World) (h : orchestratorlaw35_lives.f k  = some true) :
    Calls Try.prog 8 #[] w fun e w' => e = .returned (.bool true) ∧ Below w.heap.size w w' := by
  have hu25 := Try.underlying25
  have hu23 := Try.underlying23
  have HB := Aside0.mk (Below.refl w.heap.size w)
  have H : ((some (([(⟨(⟨#[103, 112, 117]⟩ : ByteArray), (⟨#[121, 101, 115]⟩ : ByteArray), 1, 0⟩ : S25), (⟨(⟨#[115, 108, 111, 119]⟩ : ByteArray), (⟨#[]⟩ : ByteArray), 2, 0⟩ : S25)] : List (S25)) : List (S25))).bind fun y139 => ((some (([(⟨(⟨#[100, 111, 119, 110]⟩ : ByteArray), (⟨#[]⟩ : ByteArray), 3, 100⟩ : S25)] : List (S25)) : List (S25))).bind fun y142 => ((some (([(⟨(⟨#[100, 111, 119, 110]⟩ : ByteArray), (⟨#[]⟩ : ByteArray), true, 0, 60⟩ : S23), (⟨(⟨#[100, 111, 119, 110]⟩ : ByteArray), (⟨#[]⟩ : ByteArray), false, 0, 30⟩ : S23)] : List (S23)) : List (S23))).bind fun y145 => ((taint_EvictAt.f k y142 y145).bind fun bt148 => ((taint_EvictAt.f k y142 ([] : List (S23))).bind fun bt150 => ((taint_Blocks.f k y139 ([] : List (S23))).bind fun t152 => (if t152 = true then ((taint_Blocks.f k y139 (([(⟨(⟨#[103, 112, 117]⟩ : ByteArray), (⟨#[121, 101, 115]⟩ : ByteArray), false, 0, 0⟩ : S23)] : List (S23)))).bind fun t156 => (if t156 = true then (some false) else ((taint_Soft.f k y139 ([] : List (S23))).bind fun t157 => (if t157 = 1 then (if 1 < (y145.length : Int) then (if 0 < (y142.length : Int) then ((taint_Tolerates.f ((rd_T23 y145 1).f0) ((rd_T23 y145 1).f1) ((rd_T23 y145 1).f2) ((rd_T23 y145 1).f3) ((rd_T23 y145 1).f4) ((rd_T25 y142 0).f0) ((rd_T25 y142 0).f1) ((rd_T25 y142 0).f2) ((rd_T25 y142 0).f3)).bind fun t160 => (if t160 = true then (if 0 < (y139.length : Int) then ((taint_Tolerates.f ((rd_T23 y145 1).f0) ((rd_T23 y145 1).f1) ((rd_T23 y145 1).f2) ((rd_T23 y145 1).f3) ((rd_T23 y145 1).f4) ((rd_T25 y139 0).f0) ((rd_T25 y139 0).f1) ((rd_T25 y139 0).f2) ((rd_T25 y139 0).f3)).bind fun t163 => (if t163 = true then (some false) else (if bt148.1 = 130 then (if bt148.2 = true then (if bt150.1 = 100 then (if bt150.2 = true then (some true) else (some false)) else (some false)) else (some false)) else (some false)))) else (none)) else (some false))) else (none)) else (none)) else (some false))))) else (some false)))))))) = some true := h
  clear h
  obtain ⟨y139, hy139⟩ : ∃ y_ : List (S25), y_ = (([(⟨(⟨#[103, 112, 117]⟩ : ByteArray), (⟨#[121, 101, 115]⟩ : ByteArray), 1, 0⟩ : S25), (⟨(⟨#[115, 108, 111, 119]⟩ : ByteArray), (⟨#[]⟩ : ByteArray), 2, 0⟩ : S25)] : List (S25))) := ⟨_, rfl⟩
  replace H : ((some (([(⟨(⟨#[100, 111, 119, 110]⟩ : ByteArray), (⟨#[]⟩ : ByteArray), 3, 100⟩ : S25)] : List (S25)) : List (S25))).bind fun y142 => ((some (([(⟨(⟨#[100, 111, 119, 110]⟩ : ByteArray), (⟨#[]⟩ : ByteArray), true, 0, 60⟩ : S23), (⟨(⟨#[100, 111, 119, 110]⟩ : ByteArray), (⟨#[]⟩ : ByteArray), false, 0, 30⟩ : S23)] : List (S23)) : List (S23))).bind fun y145 => ((taint_EvictAt.f k y142 y145).bind fun bt148 => ((taint_EvictAt.f k y142 ([] : List (S23))).bind fun bt150 => ((taint_Blocks.f k y139 ([] : List (S23))).bind fun t152 => (if t152 = true then ((taint_Blocks.f k y139 (([(⟨(⟨#[103, 112, 117]⟩ : ByteArray), (⟨#[121, 101, 115]⟩ : ByteArray), false, 0, 0⟩ : S23)] : List (S23)))).bind fun t156 => (if t156 = true then (some false) else ((taint_Soft.f k y139 ([] : List (S23))).bind fun t157 => (if t157 = 1 then (if 1 < (y145.length : Int) then (if 0 < (y142.length : Int) then ((taint_Tolerates.f ((rd_T23 y145 1).f0) ((rd_T23 y145 1).f1) ((rd_T23 y145 1).f2) ((rd_T23 y145 1).f3) ((rd_T23 y145 1).f4) ((rd_T25 y142 0).f0) ((rd_T25 y142 0).f1) ((rd_T25 y142 0).f2) ((rd_T25 y142 0).f3)).bind fun t160 => (if t160 = true then (if 0 < (y139.length : Int) then ((taint_Tolerates.f ((rd_T23 y145 1).f0) ((rd_T23 y145 1).f1) ((rd_T23 y145 1).f2) ((rd_T23 y145 1).f3) ((rd_T23 y145 1).f4) ((rd_T25 y139 0).f0) ((rd_T25 y139 0).f1) ((rd_T25 y139 0).f2) ((rd_T25 y139 0).f3)).bind fun t163 => (if t163 = true then (some false) else (if bt148.1 = 130 then (if bt148.2 = true then (if bt150.1 = 100 then (if bt150.2 = true then (some true) else (some false)) else (some false)) else (some false)) else (some false)))) else (none)) else (some false))) else (none)) else (none)) else (some false))))) else (some false))))))) = some true := by first | (rw [hy139]; with_reducible exact H) | (have H2_ := (Option.bind_some _ _).symm.trans H; rw [hy139]; with_reducible exact H2_) | (have H2_ := (Option.bind_some _ _).symm.trans H; with_reducible exact H2_) | with_reducible exact H | (rw [hy139]; exact H) | exact H
  have Ny139 := Aside0.mk hy139
  clear hy139
  obtain ⟨y142, hy142⟩ : ∃ y_ : List (S25), y_ = (([(⟨(⟨#[100, 111, 119, 110]⟩ : ByteArray), (⟨#[]⟩ : ByteArray), 3, 100⟩ : S25)] : List (S25))) := ⟨_, rfl⟩
  replace H : ((some (([(⟨(⟨#[100, 111, 119, 110]⟩ : ByteArray), (⟨#[]⟩ : ByteArray), true, 0, 60⟩ : S23), (⟨(⟨#[100, 111, 119, 110]⟩ : ByteArray), (⟨#[]⟩ : ByteArray), false, 0, 30⟩ : S23)] : List (S23)) : List (S23))).bind fun y145 => ((taint_EvictAt.f k y142 y145).bind fun bt148 => ((taint_EvictAt.f k y142 ([] : List (S23))).bind fun bt150 => ((taint_Blocks.f k y139 ([] : List (S23))).bind fun t152 => (if t152 = true then ((taint_Blocks.f k y139 (([(⟨(⟨#[103, 112, 117]⟩ : ByteArray), (⟨#[121, 101, 115]⟩ : ByteArray), false, 0, 0⟩ : S23)] : List (S23)))).bind fun t156 => (if t156 = true then (some false) else ((taint_Soft.f k y139 ([] : List (S23))).bind fun t157 => (if t157 = 1 then (if 1 < (y145.length : Int) then (if 0 < (y142.length : Int) then ((taint_Tolerates.f ((rd_T23 y145 1).f0) ((rd_T23 y145 1).f1) ((rd_T23 y145 1).f2) ((rd_T23 y145 1).f3) ((rd_T23 y145 1).f4) ((rd_T25 y142 0).f0) ((rd_T25 y142 0).f1) ((rd_T25 y142 0).f2) ((rd_T25 y142 0).f3)).bind fun t160 => (if t160 = true then (if 0 < (y139.length : Int) then ((taint_Tolerates.f ((rd_T23 y145 1).f0) ((rd_T23 y145 1).f1) ((rd_T23 y145 1).f2) ((rd_T23 y145 1).f3) ((rd_T23 y145 1).f4) ((rd_T25 y139 0).f0) ((rd_T25 y139 0).f1) ((rd_T25 y139 0).f2) ((rd_T25 y139 0).f3)).bind fun t163 => (if t163 = true then (some false) else (if bt148.1 = 130 then (if bt148.2 = true then (if bt150.1 = 100 then (if bt150.2 = true then (some true) else (some false)) else (some false)) else (some false)) else (some false)))) else (none)) else (some false))) else (none)) else (none)) else (some false))))) else (some false)))))) = some true := by first | (rw [hy142]; with_reducible exact H) | (have H2_ := (Option.bind_some _ _).symm.trans H; rw [hy142]; with_reducible exact H2_) | (have H2_ := (Option.bind_some _ _).symm.trans H; with_reducible exact H2_) | with_reducible exact H | (rw [hy142]; exact H) | exact H
  have Ny142 := Aside0.mk hy142
  clear hy142
  obtain ⟨y145, hy145⟩ : ∃ y_ : List (S23), y_ = (([(⟨(⟨#[100, 111, 119, 110]⟩ : ByteArray), (⟨#[]⟩ : ByteArray), true, 0, 60⟩ : S23), (⟨(⟨#[100, 111, 119, 110]⟩ : ByteArray), (⟨#[]⟩ : ByteArray), false, 0, 30⟩ : S23)] : List (S23))) := ⟨_, rfl⟩
  replace H : ((taint_EvictAt.f k y142 y145).bind fun bt148 => ((taint_EvictAt.f k y142 ([] : List (S23))).bind fun bt150 => ((taint_Blocks.f k y139 ([] : List (S23))).bind fun t152 => (if t152 = true then ((taint_Blocks.f k y139 (([(⟨(⟨#[103, 112, 117]⟩ : ByteArray), (⟨#[121, 101, 115]⟩ : ByteArray), false, 0, 0⟩ : S23)] : List (S23)))).bind fun t156 => (if t156 = true then (some false) else ((taint_Soft.f k y139 ([] : List (S23))).bind fun t157 => (if t157 = 1 then (if 1 < (y145.length : Int) then (if 0 < (y142.length : Int) then ((taint_Tolerates.f ((rd_T23 y145 1).f0) ((rd_T23 y145 1).f1) ((rd_T23 y145 1).f2) ((rd_T23 y145 1).f3) ((rd_T23 y145 1).f4) ((rd_T25 y142 0).f0) ((rd_T25 y142 0).f1) ((rd_T25 y142 0).f2) ((rd_T25 y142 0).f3)).bind fun t160 => (if t160 = true then (if 0 < (y139.length : Int) then ((taint_Tolerates.f ((rd_T23 y145 1).f0) ((rd_T23 y145 1).f1) ((rd_T23 y145 1).f2) ((rd_T23 y145 1).f3) ((rd_T23 y145 1).f4) ((rd_T25 y139 0).f0) ((rd_T25 y139 0).f1) ((rd_T25 y139 0).f2) ((rd_T25 y139 0).f3)).bind fun t163 => (if t163 = true then (some false) else (if bt148.1 = 130 then (if bt148.2 = true then (if bt150.1 = 100 then (if bt150.2 = true then (some true) else (some false)) else (some false)) else (some false)) else (some false)))) else (none)) else (some false))) else (none)) else (none)) else (some false))))) else (some false))))) = some true := by first | (rw [hy145]; with_reducible exact H) | (have H2_ := (Option.bind_some _ _).symm.trans H; rw [hy145]; with_reducible exact H2_) | (have H2_ := (Option.bind_some _ _).symm.trans H; with_reducible exact H2_) | with_reducible exact H | (rw [hy145]; exact H) | exact H
  have Ny145 := Aside0.mk hy145
  clear hy145
  replace H := Option.bind_eq_some_iff.mp H
  obtain ⟨⟨t148, t149⟩, A10, H⟩ := H
  replace H : ((taint_EvictAt.f k y142 ([] : List (S23))).bind fun bt150 => ((taint_Blocks.f k y139 ([] : List (S23))).bind fun t152 => (if t152 = true then ((taint_Blocks.f k y139 (([(⟨(⟨#[103, 112, 117]⟩ : ByteArray), (⟨#[121, 101, 115]⟩ : ByteArray), false, 0, 0⟩ : S23)] : List (S23)))).bind fun t156 => (if t156 = true then (some false) else ((taint_Soft.f k y139 ([] : List (S23))).bind fun t157 => (if t157 = 1 then (if 1 < (y145.length : Int) then (if 0 < (y142.length : Int) then ((taint_Tolerates.f ((rd_T23 y145 1).f0) ((rd_T23 y145 1).f1) ((rd_T23 y145 1).f2) ((rd_T23 y145 1).f3) ((rd_T23 y145 1).f4) ((rd_T25 y142 0).f0) ((rd_T25 y142 0).f1) ((rd_T25 y142 0).f2) ((rd_T25 y142 0).f3)).bind fun t160 => (if t160 = true then (if 0 < (y139.length : Int) then ((taint_Tolerates.f ((rd_T23 y145 1).f0) ((rd_T23 y145 1).f1) ((rd_T23 y145 1).f2) ((rd_T23 y145 1).f3) ((rd_T23 y145 1).f4) ((rd_T25 y139 0).f0) ((rd_T25 y139 0).f1) ((rd_T25 y139 0).f2) ((rd_T25 y139 0).f3)).bind fun t163 => (if t163 = true then (some false) else (if t148 = 130 then (if t149 = true then (if bt150.1 = 100 then (if bt150.2 = true then (some true) else (some false)) else (some false)) else (some false)) else (some false)))) else (none)) else (some false))) else (none)) else (none)) else (some false))))) else (some false)))) = some true := H
  have A1 := Aside0.mk A10
  clear A10
  replace H := Option.bind_eq_some_iff.mp H
  obtain ⟨⟨t150, t151⟩, A20, H⟩ := H
  replace H : ((taint_Blocks.f k y139 ([] : List (S23))).bind fun t152 => (if t152 = true then ((taint_Blocks.f k y139 (([(⟨(⟨#[103, 112, 117]⟩ : ByteArray), (⟨#[121, 101, 115]⟩ : ByteArray), false, 0, 0⟩ : S23)] : List (S23)))).bind fun t156 => (if t156 = true then (some false) else ((taint_Soft.f k y139 ([] : List (S23))).bind fun t157 => (if t157 = 1 then (if 1 < (y145.length : Int) then (if 0 < (y142.length : Int) then ((taint_Tolerates.f ((rd_T23 y145 1).f0) ((rd_T23 y145 1).f1) ((rd_T23 y145 1).f2) ((rd_T23 y145 1).f3) ((rd_T23 y145 1).f4) ((rd_T25 y142 0).f0) ((rd_T25 y142 0).f1) ((rd_T25 y142 0).f2) ((rd_T25 y142 0).f3)).bind fun t160 => (if t160 = true then (if 0 < (y139.length : Int) then ((taint_Tolerates.f ((rd_T23 y145 1).f0) ((rd_T23 y145 1).f1) ((rd_T23 y145 1).f2) ((rd_T23 y145 1).f3) ((rd_T23 y145 1).f4) ((rd_T25 y139 0).f0) ((rd_T25 y139 0).f1) ((rd_T25 y139 0).f2) ((rd_T25 y139 0).f3)).bind fun t163 => (if t163 = true then (some false) else (if t148 = 130 then (if t149 = true then (if t150 = 100 then (if t151 = true then (some true) else (some false)) else (some false)) else (some false)) else (some false)))) else (none)) else (some false))) else (none)) else (none)) else (some false))))) else (some false))) = some true := H
  have A2 := Aside0.mk A20
  clear A20
  replace H := Option.bind_eq_some_iff.mp H
  obtain ⟨t152, A30, H⟩ := H
  replace H : (if t152 = true then ((taint_Blocks.f k y139 (([(⟨(⟨#[103, 112, 117]⟩ : ByteArray), (⟨#[121, 101, 115]⟩ : ByteArray), false, 0, 0⟩ : S23)] : List (S23)))).bind fun t156 => (if t156 = true then (some false) else ((taint_Soft.f k y139 ([] : List (S23))).bind fun t157 => (if t157 = 1 then (if 1 < (y145.length : Int) then (if 0 < (y142.length : Int) then ((taint_Tolerates.f ((rd_T23 y145 1).f0) ((rd_T23 y145 1).f1) ((rd_T23 y145 1).f2) ((rd_T23 y145 1).f3) ((rd_T23 y145 1).f4) ((rd_T25 y142 0).f0) ((rd_T25 y142 0).f1) ((rd_T25 y142 0).f2) ((rd_T25 y142 0).f3)).bind fun t160 => (if t160 = true then (if 0 < (y139.length : Int) then ((taint_Tolerates.f ((rd_T23 y145 1).f0) ((rd_T23 y145 1).f1) ((rd_T23 y145 1).f2) ((rd_T23 y145 1).f3) ((rd_T23 y145 1).f4) ((rd_T25 y139 0).f0) ((rd_T25 y139 0).f1) ((rd_T25 y139 0).f2) ((rd_T25 y139 0).f3)).bind fun t163 => (if t163 = true then (some false) else (if t148 = 130 then (if t149 = true then (if t150 = 100 then (if t151 = true then (some true) else (some false)) else (some false)) else (some false)) else (some false)))) else (none)) else (some false))) else (none)) else (none)) else (some false))))) else (some false)) = some true := H
  have A3 := Aside0.mk A30
  clear A30
  by_cases c4 : t152 = true
  · subst c4
    have H1 : ((taint_Blocks.f k y139 (([(⟨(⟨#[103, 112, 117]⟩ : ByteArray), (⟨#[121, 101, 115]⟩ : ByteArray), false, 0, 0⟩ : S23)] : List (S23)))).bind fun t156 => (if t156 = true then (some false) else ((taint_Soft.f k y139 ([] : List (S23))).bind fun t157 => (if t157 = 1 then (if 1 < (y145.length : Int) then (if 0 < (y142.length : Int) then ((taint_Tolerates.f ((rd_T23 y145 1).f0) ((rd_T23 y145 1).f1) ((rd_T23 y145 1).f2) ((rd_T23 y145 1).f3) ((rd_T23 y145 1).f4) ((rd_T25 y142 0).f0) ((rd_T25 y142 0).f1) ((rd_T25 y142 0).f2) ((rd_T25 y142 0).f3)).bind fun t160 => (if t160 = true then (if 0 < (y139.length : Int) then ((taint_Tolerates.f ((rd_T23 y145 1).f0) ((rd_T23 y145 1).f1) ((rd_T23 y145 1).f2) ((rd_T23 y145 1).f3) ((rd_T23 y145 1).f4) ((rd_T25 y139 0).f0) ((rd_T25 y139 0).f1) ((rd_T25 y139 0).f2) ((rd_T25 y139 0).f3)).bind fun t163 => (if t163 = true then (some false) else (if t148 = 130 then (if t149 = true then (if t150 = 100 then (if t151 = true then (some true) else (some false)) else (some false)) else (some false)) else (some false)))) else (none)) else (some false))) else (none)) else (none)) else (some false))))) = some true := by first | (rw [if_pos rfl] at H; exact H) | rfl
    clear H
    have H := H1
    clear H1
    obtain ⟨y153, hy153⟩ : ∃ y_ : List (S23), y_ = (([(⟨(⟨#[103, 112, 117]⟩ : ByteArray), (⟨#[121, 101, 115]⟩ : ByteArray), false, 0, 0⟩ : S23)] : List (S23))) := ⟨_, rfl⟩
    replace H : ((taint_Blocks.f k y139 y153).bind fun t156 => (if t156 = true then (some false) else ((taint_Soft.f k y139 ([] : List (S23))).bind fun t157 => (if t157 = 1 then (if 1 < (y145.length : Int) then (if 0 < (y142.length : Int) then ((taint_Tolerates.f ((rd_T23 y145 1).f0) ((rd_T23 y145 1).f1) ((rd_T23 y145 1).f2) ((rd_T23 y145 1).f3) ((rd_T23 y145 1).f4) ((rd_T25 y142 0).f0) ((rd_T25 y142 0).f1) ((rd_T25 y142 0).f2) ((rd_T25 y142 0).f3)).bind fun t160 => (if t160 = true then (if 0 < (y139.length : Int) then ((taint_Tolerates.f ((rd_T23 y145 1).f0) ((rd_T23 y145 1).f1) ((rd_T23 y145 1).f2) ((rd_T23 y145 1).f3) ((rd_T23 y145 1).f4) ((rd_T25 y139 0).f0) ((rd_T25 y139 0).f1) ((rd_T25 y139 0).f2) ((rd_T25 y139 0).f3)).bind fun t163 => (if t163 = true then (some false) else (if t148 = 130 then (if t149 = true then (if t150 = 100 then (if t151 = true then (some true) else (some false)) else (some false)) else (some false)) else (some false)))) else (none)) else (some false))) else (none)) else (none)) else (some false))))) = some true := by first | (rw [hy153]; with_reducible exact H) | (have H2_ := (Option.bind_some _ _).symm.trans H; rw [hy153]; with_reducible exact H2_) | (have H2_ := (Option.bind_some _ _).symm.trans H; with_reducible exact H2_) | with_reducible exact H | (rw [hy153]; exact H) | exact H
    have Ny153 := Aside0.mk hy153
    clear hy153
    replace H := Option.bind_eq_some_iff.mp H
    obtain ⟨t156, A50, H⟩ := H
    replace H : (if t156 = true then (some false) else ((taint_Soft.f k y139 ([] : List (S23))).bind fun t157 => (if t157 = 1 then (if 1 < (y145.length : Int) then (if 0 < (y142.length : Int) then ((taint_Tolerates.f ((rd_T23 y145 1).f0) ((rd_T23 y145 1).f1) ((rd_T23 y145 1).f2) ((rd_T23 y145 1).f3) ((rd_T23 y145 1).f4) ((rd_T25 y142 0).f0) ((rd_T25 y142 0).f1) ((rd_T25 y142 0).f2) ((rd_T25 y142 0).f3)).bind fun t160 => (if t160 = true then (if 0 < (y139.length : Int) then ((taint_Tolerates.f ((rd_T23 y145 1).f0) ((rd_T23 y145 1).f1) ((rd_T23 y145 1).f2) ((rd_T23 y145 1).f3) ((rd_T23 y145 1).f4) ((rd_T25 y139 0).f0) ((rd_T25 y139 0).f1) ((rd_T25 y139 0).f2) ((rd_T25 y139 0).f3)).bind fun t163 => (if t163 = true then (some false) else (if t148 = 130 then (if t149 = true then (if t150 = 100 then (if t151 = true then (some true) else (some false)) else (some false)) else (some false)) else (some false)))) else (none)) else (some false))) else (none)) else (none)) else (some false)))) = some true := H
    have A5 := Aside0.mk A50
    clear A50
    by_cases c6 : t156 = true
    · subst c6
      have H1 : (some false) = some true := by first | (rw [if_pos rfl] at H; exact H) | rfl
      clear H
      have H := H1
      clear H1
      exact absurd H (by simp)
    · replace c6 := Bool.eq_false_iff.mpr c6
      subst c6
      have H1 : ((taint_Soft.f k y139 ([] : List (S23))).bind fun t157 => (if t157 = 1 then (if 1 < (y145.length : Int) then (if 0 < (y142.length : Int) then ((taint_Tolerates.f ((rd_T23 y145 1).f0) ((rd_T23 y145 1).f1) ((rd_T23 y145 1).f2) ((rd_T23 y145 1).f3) ((rd_T23 y145 1).f4) ((rd_T25 y142 0).f0) ((rd_T25 y142 0).f1) ((rd_T25 y142 0).f2) ((rd_T25 y142 0).f3)).bind fun t160 => (if t160 = true then (if 0 < (y139.length : Int) then ((taint_Tolerates.f ((rd_T23 y145 1).f0) ((rd_T23 y145 1).f1) ((rd_T23 y145 1).f2) ((rd_T23 y145 1).f3) ((rd_T23 y145 1).f4) ((rd_T25 y139 0).f0) ((rd_T25 y139 0).f1) ((rd_T25 y139 0).f2) ((rd_T25 y139 0).f3)).bind fun t163 => (if t163 = true then (some false) else (if t148 = 130 then (if t149 = true then (if t150 = 100 then (if t151 = true then (some true) else (some false)) else (some false)) else (some false)) else (some false)))) else (none)) else (some false))) else (none)) else (none)) else (some false))) = some true := by first | (rw [if_neg (show ¬ (false = true) by decide)] at H; exact H) | rfl
      clear H
      have H := H1
      clear H1
      replace H := Option.bind_eq_some_iff.mp H
      obtain ⟨t157, A70, H⟩ := H
      replace H : (if t157 = 1 then (if 1 < (y145.length : Int) then (if 0 < (y142.length : Int) then ((taint_Tolerates.f ((rd_T23 y145 1).f0) ((rd_T23 y145 1).f1) ((rd_T23 y145 1).f2) ((rd_T23 y145 1).f3) ((rd_T23 y145 1).f4) ((rd_T25 y142 0).f0) ((rd_T25 y142 0).f1) ((rd_T25 y142 0).f2) ((rd_T25 y142 0).f3)).bind fun t160 => (if t160 = true then (if 0 < (y139.length : Int) then ((taint_Tolerates.f ((rd_T23 y145 1).f0) ((rd_T23 y145 1).f1) ((rd_T23 y145 1).f2) ((rd_T23 y145 1).f3) ((rd_T23 y145 1).f4) ((rd_T25 y139 0).f0) ((rd_T25 y139 0).f1) ((rd_T25 y139 0).f2) ((rd_T25 y139 0).f3)).bind fun t163 => (if t163 = true then (some false) else (if t148 = 130 then (if t149 = true then (if t150 = 100 then (if t151 = true then (some true) else (some false)) else (some false)) else (some false)) else (some false)))) else (none)) else (some false))) else (none)) else (none)) else (some false)) = some true := H
      have A7 := Aside0.mk A70
      clear A70
      by_cases c8 : t157 = 1
      · rw [if_pos c8] at H
        have c8b0 : (t157 == 1) = true := beq_iff_eq.mpr c8
        have c8b1 : (t157 != 1) = false := bne_eq_false_iff_eq.mpr c8
        clear c8
        by_cases c9 : 1 < (y145.length : Int)
        · rw [if_pos c9] at H
          have c9b0 : decide (1 < (y145.length : Int)) = true := decide_eq_true c9
          have c9b1 : decide (1 < y145.length) = true := decide_eq_true (by omega)
          clear c9
          by_cases c10 : 0 < (y142.length : Int)
          · rw [if_pos c10] at H
            have c10b0 : decide (0 < (y142.length : Int)) = true := decide_eq_true c10
            have c10b1 : decide (0 < y142.length) = true := decide_eq_true (by omega)
            clear c10
            replace H := Option.bind_eq_some_iff.mp H
            obtain ⟨t160, A110, H⟩ := H
            replace H : (if t160 = true then (if 0 < (y139.length : Int) then ((taint_Tolerates.f ((rd_T23 y145 1).f0) ((rd_T23 y145 1).f1) ((rd_T23 y145 1).f2) ((rd_T23 y145 1).f3) ((rd_T23 y145 1).f4) ((rd_T25 y139 0).f0) ((rd_T25 y139 0).f1) ((rd_T25 y139 0).f2) ((rd_T25 y139 0).f3)).bind fun t163 => (if t163 = true then (some false) else (if t148 = 130 then (if t149 = true then (if t150 = 100 then (if t151 = true then (some true) else (some false)) else (some false)) else (some false)) else (some false)))) else (none)) else (some false)) = some true := H
            have A11 := Aside0.mk A110
            clear A110
            by_cases c12 : t160 = true
            · subst c12
              have H1 : (if 0 < (y139.length : Int) then ((taint_Tolerates.f ((rd_T23 y145 1).f0) ((rd_T23 y145 1).f1) ((rd_T23 y145 1).f2) ((rd_T23 y145 1).f3) ((rd_T23 y145 1).f4) ((rd_T25 y139 0).f0) ((rd_T25 y139 0).f1) ((rd_T25 y139 0).f2) ((rd_T25 y139 0).f3)).bind fun t163 => (if t163 = true then (some false) else (if t148 = 130 then (if t149 = true then (if t150 = 100 then (if t151 = true then (some true) else (some false)) else (some false)) else (some false)) else (some false)))) else (none)) = some true := by first | (rw [if_pos rfl] at H; exact H) | rfl
              clear H
              have H := H1
              clear H1
              by_cases c13 : 0 < (y139.length : Int)
              · rw [if_pos c13] at H
                have c13b0 : decide (0 < (y139.length : Int)) = true := decide_eq_true c13
                have c13b1 : decide (0 < y139.length) = true := decide_eq_true (by omega)
                clear c13
                replace H := Option.bind_eq_some_iff.mp H
                obtain ⟨t163, A140, H⟩ := H
                replace H : (if t163 = true then (some false) else (if t148 = 130 then (if t149 = true then (if t150 = 100 then (if t151 = true then (some true) else (some false)) else (some false)) else (some false)) else (some false))) = some true := H
                have A14 := Aside0.mk A140
                clear A140
                by_cases c15 : t163 = true
                · subst c15
                  have H1 : (some false) = some true := by first | (rw [if_pos rfl] at H; exact H) | rfl
                  clear H
                  have H := H1
                  clear H1
                  exact absurd H (by simp)
                · replace c15 := Bool.eq_false_iff.mpr c15
                  subst c15
                  have H1 : (if t148 = 130 then (if t149 = true then (if t150 = 100 then (if t151 = true then (some true) else (some false)) else (some false)) else (some false)) else (some false)) = some true := by first | (rw [if_neg (show ¬ (false = true) by decide)] at H; exact H) | rfl
                  clear H
                  have H := H1
                  clear H1
                  by_cases c16 : t148 = 130
                  · rw [if_pos c16] at H
                    have c16b0 : (t148 == 130) = true := beq_iff_eq.mpr c16
                    have c16b1 : (t148 != 130) = false := bne_eq_false_iff_eq.mpr c16
                    clear c16
                    by_cases c17 : t149 = true
                    · subst c17
                      have H1 : (if t150 = 100 then (if t151 = true then (some true) else (some false)) else (some false)) = some true := by first | (rw [if_pos rfl] at H; exact H) | rfl
                      clear H
                      have H := H1
                      clear H1
                      by_cases c18 : t150 = 100
                      · rw [if_pos c18] at H
                        have c18b0 : (t150 == 100) = true := beq_iff_eq.mpr c18
                        have c18b1 : (t150 != 100) = false := bne_eq_false_iff_eq.mpr c18
                        clear c18
                        by_cases c19 : t151 = true
                        · subst c19
                          have H1 : (some true) = some true := by first | (rw [if_pos rfl] at H; exact H) | rfl
                          clear H
                          have H := H1
                          clear H1
                          clear H
                          go_enter Try.func8, Try.ntmps8
                          try go_wp2_with (first | ((with_reducible refine gate_dst (N := 10) rfl ?_); (try (refine gate_guard (by rfl) ?_; dsimp only)); refine Kd.R_lit k25 _ 25 ?hg (N := 10) ?hd (xs := ([(⟨(⟨#[103, 112, 117]⟩ : ByteArray), (⟨#[121, 101, 115]⟩ : ByteArray), 1, 0⟩ : S25), (⟨(⟨#[115, 108, 111, 119]⟩ : ByteArray), (⟨#[]⟩ : ByteArray), 2, 0⟩ : S25)] : List (S25))) (inner := [.string (⟨#[103, 112, 117]⟩ : ByteArray), .string (⟨#[121, 101, 115]⟩ : ByteArray), .int .i64 1, .int .i64 0, .string (⟨#[115, 108, 111, 119]⟩ : ByteArray), .string (⟨#[]⟩ : ByteArray), .int .i64 2, .int .i64 0]) (ok := fun _ => True) (okp := fun _ => True) ?hr ?hp (fun _ hk => hk) trivial (Below.refl _ _) (Nat.le_refl _) (by simp) ?_; (case hd => rfl); (case hg => rfl); (case hr => first | (go_simp; done) | (go_simp; rfl)); (case hp => exact (Reps.c4 (show Kd.M k25 _ _ _ (⟨(⟨#[103, 112, 117]⟩ : ByteArray), (⟨#[121, 101, 115]⟩ : ByteArray), 1, 0⟩ : S25) [.string (⟨#[103, 112, 117]⟩ : ByteArray), .string (⟨#[121, 101, 115]⟩ : ByteArray), .int .i64 1, .int .i64 0] from (k25_mkM _ _ _ (⟨(⟨#[103, 112, 117]⟩ : ByteArray), (⟨#[121, 101, 115]⟩ : ByteArray), 1, 0⟩ : S25) )) (Reps.c4 (show Kd.M k25 _ _ _ (⟨(⟨#[115, 108, 111, 119]⟩ : ByteArray), (⟨#[]⟩ : ByteArray), 2, 0⟩ : S25) [.string (⟨#[115, 108, 111, 119]⟩ : ByteArray), .string (⟨#[]⟩ : ByteArray), .int .i64 2, .int .i64 0] from (k25_mkM _ _ _ (⟨(⟨#[115, 108, 111, 119]⟩ : ByteArray), (⟨#[]⟩ : ByteArray), 2, 0⟩ : S25) )) (Reps.none _ _)))); intro v140 w20 ho21 hb hg_ hnew_; clear hg_ hnew_; (first | rw [← Ny139.out] at ho21 | (simp only [Int.reduceToNat] at ho21; rw [← Ny139.out] at ho21)); have n0_ := Aside0.mk (Kd.R_lower ho21 (below_size (by repeat (first | (with_reducible first | exact HB.out | apply below_alloc | apply pw_below_drewN | apply below_drew1) | exact HB.out)))); have n1_ := Aside0.mk (below_step (by repeat (first | (with_reducible first | exact HB.out | apply below_alloc | apply pw_below_drewN | apply below_drew1) | exact HB.out)) hb); clear HB; have HO141 := n0_; have HB := n1_; clear n0_ n1_; clear hb ho21) | ((with_reducible refine gate_dst (N := 12) rfl ?_); (try (refine gate_guard (by rfl) ?_; dsimp only)); refine Kd.R_lit k25 _ 25 ?hg (N := 12) ?hd (xs := ([(⟨(⟨#[100, 111, 119, 110]⟩ : ByteArray), (⟨#[]⟩ : ByteArray), 3, 100⟩ : S25)] : List (S25))) (inner := [.string (⟨#[100, 111, 119, 110]⟩ : ByteArray), .string (⟨#[]⟩ : ByteArray), .int .i64 3, .int .i64 100]) (ok := fun _ => True) (okp := fun _ => True) ?hr ?hp (fun _ hk => hk) trivial (Below.refl _ _) (Nat.le_refl _) (by simp) ?_; (case hd => rfl); (case hg => rfl); (case hr => first | (go_simp; done) | (go_simp; rfl)); (case hp => exact (Reps.c4 (show Kd.M k25 _ _ _ (⟨(⟨#[100, 111, 119, 110]⟩ : ByteArray), (⟨#[]⟩ : ByteArray), 3, 100⟩ : S25) [.string (⟨#[100, 111, 119, 110]⟩ : ByteArray), .string (⟨#[]⟩ : ByteArray), .int .i64 3, .int .i64 100] from (k25_mkM _ _ _ (⟨(⟨#[100, 111, 119, 110]⟩ : ByteArray), (⟨#[]⟩ : ByteArray), 3, 100⟩ : S25) )) (Reps.none _ _))); intro v143 w22 ho23 hb hg_ hnew_; clear hg_ hnew_; (first | rw [← Ny142.out] at ho23 | (simp only [Int.reduceToNat] at ho23; rw [← Ny142.out] at ho23)); have n0_ := Aside0.mk (Kd.R_elder' (by (with_reducible repeat (first | apply Kd.R_alloc | apply Kd.R_drewN | apply Kd.R_drew)); exact HO141.out) (Kd.R_base ho23) hb); have n1_ := Aside0.mk (Kd.R_lower (Kd.R_new' ho23 (Kd.R_lt (by (with_reducible repeat (first | apply Kd.R_alloc | apply Kd.R_drewN | apply Kd.R_drew)); exact HO141.out))) (below_size (by repeat (first | (with_reducible first | exact HB.out | apply below_alloc | apply pw_below_drewN | apply below_drew1) | exact HB.out)))); have n2_ := Aside0.mk (below_step (by repeat (first | (with_reducible first | exact HB.out | apply below_alloc | apply pw_below_drewN | apply below_drew1) | exact HB.out)) hb); clear HO141; clear HB; have HO141 := n0_; have HO144 := n1_; have HB := n2_; clear n0_ n1_ n2_; clear hb ho23) | ((with_reducible refine gate_dst (N := 15) rfl ?_); (try (refine gate_guard (by rfl) ?_; dsimp only)); refine Kd.R_lit k23 _ 23 ?hg (N := 15) ?hd (xs := ([(⟨(⟨#[100, 111, 119, 110]⟩ : ByteArray), (⟨#[]⟩ : ByteArray), true, 0, 60⟩ : S23), (⟨(⟨#[100, 111, 119, 110]⟩ : ByteArray), (⟨#[]⟩ : ByteArray), false, 0, 30⟩ : S23)] : List (S23))) (inner := [.string (⟨#[100, 111, 119, 110]⟩ : ByteArray), .string (⟨#[]⟩ : ByteArray), .bool true, .int .i64 0, .int .i64 60, .string (⟨#[100, 111, 119, 110]⟩ : ByteArray), .string (⟨#[]⟩ : ByteArray), .bool false, .int .i64 0, .int .i64 30]) (ok := fun _ => True) (okp := fun _ => True) ?hr ?hp (fun _ hk => hk) trivial (Below.refl _ _) (Nat.le_refl _) (by simp) ?_; (case hd => rfl); (case hg => rfl); (case hr => first | (go_simp; done) | (go_simp; rfl)); (case hp => exact (Reps.c5 (show Kd.M k23 _ _ _ (⟨(⟨#[100, 111, 119, 110]⟩ : ByteArray), (⟨#[]⟩ : ByteArray), true, 0, 60⟩ : S23) [.string (⟨#[100, 111, 119, 110]⟩ : ByteArray), .string (⟨#[]⟩ : ByteArray), .bool true, .int .i64 0, .int .i64 60] from (k23_mkM _ _ _ (⟨(⟨#[100, 111, 119, 110]⟩ : ByteArray), (⟨#[]⟩ : ByteArray), true, 0, 60⟩ : S23) )) (Reps.c5 (show Kd.M k23 _ _ _ (⟨(⟨#[100, 111, 119, 110]⟩ : ByteArray), (⟨#[]⟩ : ByteArray), false, 0, 30⟩ : S23) [.string (⟨#[100, 111, 119, 110]⟩ : ByteArray), .string (⟨#[]⟩ : ByteArray), .bool false, .int .i64 0, .int .i64 30] from (k23_mkM _ _ _ (⟨(⟨#[100, 111, 119, 110]⟩ : ByteArray), (⟨#[]⟩ : ByteArray), false, 0, 30⟩ : S23) )) (Reps.none _ _)))); intro v146 w24 ho25 hb hg_ hnew_; clear hg_ hnew_; (first | rw [← Ny145.out] at ho25 | (simp only [Int.reduceToNat] at ho25; rw [← Ny145.out] at ho25)); have n0_ := Aside0.mk (Kd.R_below (by (with_reducible repeat (first | apply Kd.R_alloc | apply Kd.R_drewN | apply Kd.R_drew)); exact HO141.out) hb); have n1_ := Aside0.mk (Kd.R_below (by (with_reducible repeat (first | apply Kd.R_alloc | apply Kd.R_drewN | apply Kd.R_drew)); exact HO144.out) hb); have n2_ := Aside0.mk (Kd.R_lower ho25 (below_size (by repeat (first | (with_reducible first | exact HB.out | apply below_alloc | apply pw_below_drewN | apply below_drew1) | exact HB.out)))); have n3_ := Aside0.mk (below_step (by repeat (first | (with_reducible first | exact HB.out | apply below_alloc | apply pw_below_drewN | apply below_drew1) | exact HB.out)) hb); clear HO141; clear HO144; clear HB; have HO141 := n0_; have HO144 := n1_; have HO147 := n2_; have HB := n3_; clear n0_ n1_ n2_ n3_; clear hb ho25; obtain ⟨Ao26, co26, eo26⟩ := Kd.R_slice HO144.out; subst eo26; obtain ⟨Ao27, co27, eo27⟩ := Kd.R_slice HO147.out; subst eo27) | ((with_reducible refine gate_callee (f := 15) rfl ?_); refine goesL_ (some 19) rfl rfl Try.func15 (by kernel_rfl) rfl #[.slice Ao26 y142.length co26, .slice Ao27 y145.length co27] rfl (by (try simp only [List.map_toArray, List.map_cons, List.map_nil]); first | done | rfl | (simp only [List.length_drop, List.length_take]; rfl)) ?_; (with_reducible refine (taint_EvictAt.calls k _ _ y142 _ _ y145 t148 true _ ?side1 ?side2 ?side3 ?side4 A1.out).mono ?_); (case side1 => repeat (first | exact (Kd.R_reads' HO144.out).2.2 | (with_reducible refine Kd.C_alloc ?_ _) | (with_reducible refine Kd.C_drewN ?_ _) | (with_reducible refine Kd.C_drew ?_))); (case side2 => exact (Kd.R_reads' HO144.out).2.1); (case side3 => repeat (first | exact (Kd.R_reads' HO147.out).2.2 | (with_reducible refine Kd.C_alloc ?_ _) | (with_reducible refine Kd.C_drewN ?_ _) | (with_reducible refine Kd.C_drew ?_))); (case side4 => exact (Kd.R_reads' HO147.out).2.1); rintro e w28 ⟨rfl, hb⟩; refine ⟨_, rfl, ?_⟩; have n0_ := Aside0.mk (Kd.R_below (by (with_reducible repeat (first | apply Kd.R_alloc | apply Kd.R_drewN | apply Kd.R_drew)); exact HO141.out) hb); have n1_ := Aside0.mk (Kd.R_below (by (with_reducible repeat (first | apply Kd.R_alloc | apply Kd.R_drewN | apply Kd.R_drew)); exact HO144.out) hb); have n2_ := Aside0.mk (Kd.R_below (by (with_reducible repeat (first | apply Kd.R_alloc | apply Kd.R_drewN | apply Kd.R_drew)); exact HO147.out) hb); have n3_ := Aside0.mk (below_step (by repeat (first | (with_reducible first | exact HB.out | apply below_alloc | apply pw_below_drewN | apply below_drew1) | exact HB.out)) hb); clear HO141; clear HO144; clear HO147; clear HB; have HO141 := n0_; have HO144 := n1_; have HO147 := n2_; have HB := n3_; clear n0_ n1_ n2_ n3_; (try clear hb); (try clear hb2); (try clear hk); (try clear hi)) | ((with_reducible refine gate_callee (f := 15) rfl ?_); refine goesL_ (some 24) rfl rfl Try.func15 (by kernel_rfl) rfl #[.slice Ao26 y142.length co26, .slice none 0 0] rfl (by (try simp only [List.map_toArray, List.map_cons, List.map_nil]); first | done | rfl | (simp only [List.length_drop, List.length_take]; rfl)) ?_; (refine (taint_EvictAt.calls k _ _ y142 _ _ ([] : List (S23)) t150 true _ ?side1 ?side2 ?side3 ?side4 A2.out).mono ?_); (case side1 => repeat (first | exact (Kd.R_reads' HO144.out).2.2 | (with_reducible refine Kd.C_alloc ?_ _) | (with_reducible refine Kd.C_drewN ?_ _) | (with_reducible refine Kd.C_drew ?_))); (case side2 => exact (Kd.R_reads' HO144.out).2.1); (case side3 => exact Kd.C_nil _ _); (case side4 => exact Nat.le_refl _); rintro e w29 ⟨rfl, hb⟩; refine ⟨_, rfl, ?_⟩; have n0_ := Aside0.mk (Kd.R_below (by (with_reducible repeat (first | apply Kd.R_alloc | apply Kd.R_drewN | apply Kd.R_drew)); exact HO141.out) hb); have n1_ := Aside0.mk (Kd.R_below (by (with_reducible repeat (first | apply Kd.R_alloc | apply Kd.R_drewN | apply Kd.R_drew)); exact HO144.out) hb); have n2_ := Aside0.mk (Kd.R_below (by (with_reducible repeat (first | apply Kd.R_alloc | apply Kd.R_drewN | apply Kd.R_drew)); exact HO147.out) hb); have n3_ := Aside0.mk (below_step (by repeat (first | (with_reducible first | exact HB.out | apply below_alloc | apply pw_below_drewN | apply below_drew1) | exact HB.out)) hb); clear HO141; clear HO144; clear HO147; clear HB; have HO141 := n0_; have HO144 := n1_; have HO147 := n2_; have HB := n3_; clear n0_ n1_ n2_ n3_; (try clear hb); (try clear hb2); (try clear hk); (try clear hi)))
                          have n0_ := Aside0.mk (Kd.R_drew HO141.out)
                          have n1_ := Aside0.mk (Kd.R_drew HO144.out)
                          have n2_ := Aside0.mk (Kd.R_drew HO147.out)
                          have n3_ := Aside0.mk (below_drew1 HB.out)
                          clear HO141
                          clear HO144
                          clear HO147
                          clear HB
                          have HO141 := n0_
                          have HO144 := n1_
                          have HO147 := n2_
                          have HB := n3_
                          clear n0_ n1_ n2_ n3_
                          obtain ⟨Ao31, co31, eo31⟩ := Kd.R_slice HO141.out
                          (first | subst eo31 | (injection eo31 with f1_ f2_ f3_; have f4_ := f1_.symm; have f5_ := f3_.symm; clear f1_ f2_ f3_; subst f4_; subst f5_))
                          have p158 : 0 ≤ (1 : Int) := (by omega)
                          have q158 : 1 < (y145.length : Int) := of_decide_eq_true (by first | (with_reducible assumption) | assumption)
                          obtain ⟨ad158, e158, hx158_0, hx158_1, hx158_2, hx158_3, hx158_4⟩ := at_T23 (Kd.R_reads' HO147.out).2.2 1 p158 q158
                          cases e158
                          (try simp only [show (1 : Int).toNat = 1 from rfl, Nat.reduceMul, Nat.reduceEqDiff, Go.Addr.add, ↓reduceIte] at hx158_0)
                          (try simp only [show (1 : Int).toNat = 1 from rfl, Nat.reduceMul, Nat.reduceEqDiff, Go.Addr.add, ↓reduceIte] at hx158_1)
                          (try simp only [show (1 : Int).toNat = 1 from rfl, Nat.reduceMul, Nat.reduceEqDiff, Go.Addr.add, ↓reduceIte] at hx158_2)
                          (try simp only [show (1 : Int).toNat = 1 from rfl, Nat.reduceMul, Nat.reduceEqDiff, Go.Addr.add, ↓reduceIte] at hx158_3)
                          (try simp only [show (1 : Int).toNat = 1 from rfl, Nat.reduceMul, Nat.reduceEqDiff, Go.Addr.add, ↓reduceIte] at hx158_4)
                          have qi158 : (1 < y145.length) = True := eq_true (by omega)
                          (try rw [show ((1 : Int)).toNat = 1 from rfl] at hx158_0)
                          (try rw [show 1 * 5 = 5 from rfl] at hx158_0)
                          (try rw [show ((1 : Int)).toNat = 1 from rfl] at hx158_1)
                          (try rw [show 1 * 5 = 5 from rfl] at hx158_1)
                          (try rw [show ((1 : Int)).toNat = 1 from rfl] at hx158_2)
                          (try rw [show 1 * 5 = 5 from rfl] at hx158_2)
                          (try rw [show ((1 : Int)).toNat = 1 from rfl] at hx158_3)
                          (try rw [show 1 * 5 = 5 from rfl] at hx158_3)
                          (try rw [show ((1 : Int)).toNat = 1 from rfl] at hx158_4)
                          (try rw [show 1 * 5 = 5 from rfl] at hx158_4)
                          replace p158 := eq_true p158
                          replace q158 := eq_true q158
                          have p159 : 0 ≤ (0 : Int) := (by omega)
                          have q159 : 0 < (y142.length : Int) := of_decide_eq_true (by first | (with_reducible assumption) | assumption)
                          obtain ⟨ad159, e159, hx159_0, hx159_1, hx159_2, hx159_3⟩ := at_T25 (Kd.R_reads' HO144.out).2.2 0 p159 q159
                          cases e159
                          have qi159 : (0 < y142.length) = True := eq_true (by omega)
                          (try rw [show ((0 : Int)).toNat = 0 from rfl] at hx159_0)
                          (try rw [show 0 * 4 = 0 from rfl] at hx159_0)
                          (try rw [Addr.add_zero'] at hx159_0)
                          (try rw [show ((0 : Int)).toNat = 0 from rfl] at hx159_1)
                          (try rw [show 0 * 4 = 0 from rfl] at hx159_1)
                          (try rw [Addr.add_zero'] at hx159_1)
                          (try rw [show ((0 : Int)).toNat = 0 from rfl] at hx159_2)
                          (try rw [show 0 * 4 = 0 from rfl] at hx159_2)
                          (try rw [Addr.add_zero'] at hx159_2)
                          (try rw [show ((0 : Int)).toNat = 0 from rfl] at hx159_3)
                          (try rw [show 0 * 4 = 0 from rfl] at hx159_3)
                          (try rw [Addr.add_zero'] at hx159_3)
                          replace p159 := eq_true p159
                          replace q159 := eq_true q159
                          have p161 : 0 ≤ (1 : Int) := (by omega)
                          have q161 : 1 < (y145.length : Int) := of_decide_eq_true (by first | (with_reducible assumption) | assumption)
                          obtain ⟨ad161, e161, hx161_0, hx161_1, hx161_2, hx161_3, hx161_4⟩ := at_T23 (Kd.R_reads' HO147.out).2.2 1 p161 q161
                          obtain rfl : ad158 = ad161 := (by injection e161)
                          (try simp only [show (1 : Int).toNat = 1 from rfl, Nat.reduceMul, Nat.reduceEqDiff, Go.Addr.add, ↓reduceIte] at hx161_0)
                          (try simp only [show (1 : Int).toNat = 1 from rfl, Nat.reduceMul, Nat.reduceEqDiff, Go.Addr.add, ↓reduceIte] at hx161_1)
                          (try simp only [show (1 : Int).toNat = 1 from rfl, Nat.reduceMul, Nat.reduceEqDiff, Go.Addr.add, ↓reduceIte] at hx161_2)
                          (try simp only [show (1 : Int).toNat = 1 from rfl, Nat.reduceMul, Nat.reduceEqDiff, Go.Addr.add, ↓reduceIte] at hx161_3)
                          (try simp only [show (1 : Int).toNat = 1 from rfl, Nat.reduceMul, Nat.reduceEqDiff, Go.Addr.add, ↓reduceIte] at hx161_4)
                          have qi161 : (1 < y145.length) = True := eq_true (by omega)
                          (try rw [show ((1 : Int)).toNat = 1 from rfl] at hx161_0)
                          (try rw [show 1 * 5 = 5 from rfl] at hx161_0)
                          (try rw [show ((1 : Int)).toNat = 1 from rfl] at hx161_1)
                          (try rw [show 1 * 5 = 5 from rfl] at hx161_1)
                          (try rw [show ((1 : Int)).toNat = 1 from rfl] at hx161_2)
                          (try rw [show 1 * 5 = 5 from rfl] at hx161_2)
                          (try rw [show ((1 : Int)).toNat = 1 from rfl] at hx161_3)
                          (try rw [show 1 * 5 = 5 from rfl] at hx161_3)
                          (try rw [show ((1 : Int)).toNat = 1 from rfl] at hx161_4)
                          (try rw [show 1 * 5 = 5 from rfl] at hx161_4)
                          replace p161 := eq_true p161
                          replace q161 := eq_true q161
                          have p162 : 0 ≤ (0 : Int) := (by omega)
                          have q162 : 0 < (y139.length : Int) := of_decide_eq_true (by first | (with_reducible assumption) | assumption)
                          obtain ⟨ad162, e162, hx162_0, hx162_1, hx162_2, hx162_3⟩ := at_T25 (Kd.R_reads' HO141.out).2.2 0 p162 q162
                          cases e162
                          have qi162 : (0 < y139.length) = True := eq_true (by omega)
                          (try rw [show ((0 : Int)).toNat = 0 from rfl] at hx162_0)
                          (try rw [show 0 * 4 = 0 from rfl] at hx162_0)
                          (try rw [Addr.add_zero'] at hx162_0)
                          (try rw [show ((0 : Int)).toNat = 0 from rfl] at hx162_1)
                          (try rw [show 0 * 4 = 0 from rfl] at hx162_1)
                          (try rw [Addr.add_zero'] at hx162_1)
                          (try rw [show ((0 : Int)).toNat = 0 from rfl] at hx162_2)
                          (try rw [show 0 * 4 = 0 from rfl] at hx162_2)
                          (try rw [Addr.add_zero'] at hx162_2)
                          (try rw [show ((0 : Int)).toNat = 0 from rfl] at hx162_3)
                          (try rw [show 0 * 4 = 0 from rfl] at hx162_3)
                          (try rw [Addr.add_zero'] at hx162_3)
                          replace p162 := eq_true p162
                          replace q162 := eq_true q162
                          refine start_ (n := 48) (S := fun w' => w'.cell? ⟨ad158.block, ad158.off + 5, none⟩ = some (.string ((rd_T23 y145 1).f0)) ∧ w'.cell? ⟨ad158.block, ad158.off + 5 + 1, none⟩ = some (.string ((rd_T23 y145 1).f1)) ∧ w'.cell? ⟨ad158.block, ad158.off + 5 + 2, none⟩ = some (.bool ((rd_T23 y145 1).f2)) ∧ w'.cell? ⟨ad158.block, ad158.off + 5 + 3, none⟩ = some (.int .i64 ((rd_T23 y145 1).f3)) ∧ w'.cell? ⟨ad158.block, ad158.off + 5 + 4, none⟩ = some (.int .i64 ((rd_T23 y145 1).f4)) ∧ w'.cell? ad159 = some (.string ((rd_T25 y142 0).f0)) ∧ w'.cell? ⟨ad159.block, ad159.off + 1, none⟩ = some (.string ((rd_T25 y142 0).f1)) ∧ w'.cell? ⟨ad159.block, ad159.off + 2, none⟩ = some (.int .i64 ((rd_T25 y142 0).f2)) ∧ w'.cell? ⟨ad159.block, ad159.off + 3, none⟩ = some (.int .i64 ((rd_T25 y142 0).f3)) ∧ w'.cell? ⟨ad158.block, ad158.off + 5, none⟩ = some (.string ((rd_T23 y145 1).f0)) ∧ w'.cell? ⟨ad158.block, ad158.off + 5 + 1, none⟩ = some (.string ((rd_T23 y145 1).f1)) ∧ w'.cell? ⟨ad158.block, ad158.off + 5 + 2, none⟩ = some (.bool ((rd_T23 y145 1).f2)) ∧ w'.cell? ⟨ad158.block, ad158.off + 5 + 3, none⟩ = some (.int .i64 ((rd_T23 y145 1).f3)) ∧ w'.cell? ⟨ad158.block, ad158.off + 5 + 4, none⟩ = some (.int .i64 ((rd_T23 y145 1).f4)) ∧ w'.cell? ad162 = some (.string ((rd_T25 y139 0).f0)) ∧ w'.cell? ⟨ad162.block, ad162.off + 1, none⟩ = some (.string ((rd_T25 y139 0).f1)) ∧ w'.cell? ⟨ad162.block, ad162.off + 2, none⟩ = some (.int .i64 ((rd_T25 y139 0).f2)) ∧ w'.cell? ⟨ad162.block, ad162.off + 3, none⟩ = some (.int .i64 ((rd_T25 y139 0).f3))) (ds := []) #[false, false, false, false, false, false, false, false, false, false, false, false, false, false, false, false, false, false, false, false, false, false, false, false, false, false, false, false, false, false, false, false, false, false, false, false, false, false, false, false, false, false, false, false, false, false, false, false] (by kernel_rfl) rfl rfl ⟨hx158_0, hx158_1, hx158_2, hx158_3, hx158_4, hx159_0, hx159_1, hx159_2, hx159_3, hx161_0, hx161_1, hx161_2, hx161_3, hx161_4, hx162_0, hx162_1, hx162_2, hx162_3⟩ (fun hHeld => ?_); refine with_tabW orchestratorlaw35_lives.tab6 orchestratorlaw35_lives.bits6 (fun HT_ HW_ => ?_)
                          generalize w29.drew = w30 at HO141 HO144 HO147 HB hx158_0 hx158_1 hx158_2 hx158_3 hx158_4 hx159_0 hx159_1 hx159_2 hx159_3 hx161_0 hx161_1 hx161_2 hx161_3 hx161_4 hx162_0 hx162_1 hx162_2 hx162_3 hHeld ⊢
                          refine pure_ (i := 0) (N := some 27) (v := ?_) (a' := ?_) #[true, false, false, false, false, false, false, false, false, false, false, false, false, false, false, false, false, false, false, false, false, false, false, false, false, false, false, false, false, false, false, false, false, false, false, false, false, false, false, false, false, false, false, false, false, false, false, false] rfl rfl (any_of HT_.out (by kernel_rfl)) (fun _ _ _ h => h) (Or.inl ⟨by rfl, ?_⟩) ?_ ?_
                          rotate_left
                          · intro w'
                            go_simp
                            with_reducible rfl
                          rotate_left
                          · simp only [Act.put, List.setIfInBounds_toArray, List.set_cons_zero, List.set_cons_succ, i64_w, i32_w]
                            rfl
                          refine one_ (i := 1) (N := some 28) #[true, true, false, false, false, false, false, false, false, false, false, false, false, false, false, false, false, false, false, false, false, false, false, false, false, false, false, false, false, false, false, false, false, false, false, false, false, false, false, false, false, false, false, false, false, false, false, false] rfl rfl (one_of HT_.out (by kernel_rfl)) (by decide) (fun K hK => ?_)
                          refine goes_ Try.func11 (by kernel_rfl) rfl #[.slice (some ad162) y139.length co31, .slice none 0 0] (by rfl) rfl rfl (by (try simp only [List.map_toArray, List.map_cons, List.map_nil]); first | done | rfl | (simp only [List.length_drop, List.length_take]; rfl)) ?_
                          refine (taint_Blocks.calls k _ _ y139 _ _ ([] : List (S23)) true _ ?side1 ?side2 ?side3 ?side4 A3.out).mono ?_
                          (case side1 => repeat (first | exact (Kd.R_reads' HO141.out).2.2 | (with_reducible refine Kd.C_alloc ?_ _) | (with_reducible refine Kd.C_drewN ?_ _) | (with_reducible refine Kd.C_drew ?_)))
                          (case side2 => exact (Kd.R_reads' HO141.out).2.1)
                          (case side3 => exact Kd.C_nil _ _)
                          (case side4 => exact Nat.le_refl _)
                          rintro e w32 ⟨rfl, hb⟩
                          have HS0_ := (hb.cell (World.block_lt_of_cell? _ _ (hHeld.1))).trans (hHeld.1)
                          have HS1_ := (hb.cell (World.block_lt_of_cell? _ _ (hHeld.2.1))).trans (hHeld.2.1)
                          have HS2_ := (hb.cell (World.block_lt_of_cell? _ _ (hHeld.2.2.1))).trans (hHeld.2.2.1)
                          have HS3_ := (hb.cell (World.block_lt_of_cell? _ _ (hHeld.2.2.2.1))).trans (hHeld.2.2.2.1)
                          have HS4_ := (hb.cell (World.block_lt_of_cell? _ _ (hHeld.2.2.2.2.1))).trans (hHeld.2.2.2.2.1)
                          have HS5_ := (hb.cell (World.block_lt_of_cell? _ _ (hHeld.2.2.2.2.2.1))).trans (hHeld.2.2.2.2.2.1)
                          have HS6_ := (hb.cell (World.block_lt_of_cell? _ _ (hHeld.2.2.2.2.2.2.1))).trans (hHeld.2.2.2.2.2.2.1)
                          have HS7_ := (hb.cell (World.block_lt_of_cell? _ _ (hHeld.2.2.2.2.2.2.2.1))).trans (hHeld.2.2.2.2.2.2.2.1)
                          have HS8_ := (hb.cell (World.block_lt_of_cell? _ _ (hHeld.2.2.2.2.2.2.2.2.1))).trans (hHeld.2.2.2.2.2.2.2.2.1)
                          have HS9_ := (hb.cell (World.block_lt_of_cell? _ _ (hHeld.2.2.2.2.2.2.2.2.2.1))).trans (hHeld.2.2.2.2.2.2.2.2.2.1)
                          have HS10_ := (hb.cell (World.block_lt_of_cell? _ _ (hHeld.2.2.2.2.2.2.2.2.2.2.1))).trans (hHeld.2.2.2.2.2.2.2.2.2.2.1)
                          have HS11_ := (hb.cell (World.block_lt_of_cell? _ _ (hHeld.2.2.2.2.2.2.2.2.2.2.2.1))).trans (hHeld.2.2.2.2.2.2.2.2.2.2.2.1)
                          have HS12_ := (hb.cell (World.block_lt_of_cell? _ _ (hHeld.2.2.2.2.2.2.2.2.2.2.2.2.1))).trans (hHeld.2.2.2.2.2.2.2.2.2.2.2.2.1)
                          have HS13_ := (hb.cell (World.block_lt_of_cell? _ _ (hHeld.2.2.2.2.2.2.2.2.2.2.2.2.2.1))).trans (hHeld.2.2.2.2.2.2.2.2.2.2.2.2.2.1)
                          have HS14_ := (hb.cell (World.block_lt_of_cell? _ _ (hHeld.2.2.2.2.2.2.2.2.2.2.2.2.2.2.1))).trans (hHeld.2.2.2.2.2.2.2.2.2.2.2.2.2.2.1)
                          have HS15_ := (hb.cell (World.block_lt_of_cell? _ _ (hHeld.2.2.2.2.2.2.2.2.2.2.2.2.2.2.2.1))).trans (hHeld.2.2.2.2.2.2.2.2.2.2.2.2.2.2.2.1)
                          have HS16_ := (hb.cell (World.block_lt_of_cell? _ _ (hHeld.2.2.2.2.2.2.2.2.2.2.2.2.2.2.2.2.1))).trans (hHeld.2.2.2.2.2.2.2.2.2.2.2.2.2.2.2.2.1)
                          have HS17_ := (hb.cell (World.block_lt_of_cell? _ _ (hHeld.2.2.2.2.2.2.2.2.2.2.2.2.2.2.2.2.2))).trans (hHeld.2.2.2.2.2.2.2.2.2.2.2.2.2.2.2.2.2)
                          refine ⟨_, rfl, ?_⟩
                          have n0_ := Aside0.mk (Kd.R_below (by (with_reducible repeat (first | apply Kd.R_alloc | apply Kd.R_drewN | apply Kd.R_drew)); exact HO141.out) hb)
                          have n1_ := Aside0.mk (Kd.R_below (by (with_reducible repeat (first | apply Kd.R_alloc | apply Kd.R_drewN | apply Kd.R_drew)); exact HO144.out) hb)
                          have n2_ := Aside0.mk (Kd.R_below (by (with_reducible repeat (first | apply Kd.R_alloc | apply Kd.R_drewN | apply Kd.R_drew)); exact HO147.out) hb)
                          have n3_ := Aside0.mk (below_step (by repeat (first | (with_reducible first | exact HB.out | apply below_alloc | apply pw_below_drewN | apply below_drew1) | exact HB.out)) hb)
                          clear HO141
                          clear HO144
                          clear HO147
                          clear HB
                          have HO141 := n0_
                          have HO144 := n1_
                          have HO147 := n2_
                          have HB := n3_
                          clear n0_ n1_ n2_ n3_
                          (try clear hb)
                          (try clear hb2)
                          (try clear hk)
                          (try clear hi)
                          refine hK.out _ _ ⟨HS0_, HS1_, HS2_, HS3_, HS4_, HS5_, HS6_, HS7_, HS8_, HS9_, HS10_, HS11_, HS12_, HS13_, HS14_, HS15_, HS16_, HS17_⟩ (fun hHeld => ?_)
                          clear hK K
                          refine norm_ (a' := ?_) ?_ ?_
                          rotate_left
                          · show Act.put _ (some 28) _ = _
                            simp only [Act.put, List.setIfInBounds_toArray, List.set_cons_zero, List.set_cons_succ, i64_w, i32_w]
                            rfl
                          refine pure_ (i := 2) (N := some 29) (v := ?_) (a' := ?_) #[true, true, true, false, false, false, false, false, false, false, false, false, false, false, false, false, false, false, false, false, false, false, false, false, false, false, false, false, false, false, false, false, false, false, false, false, false, false, false, false, false, false, false, false, false, false, false, false] rfl rfl (any_of HT_.out (by kernel_rfl)) (fun _ _ _ h => h) (Or.inl ⟨by rfl, ?_⟩) ?_ ?_
                          rotate_left
                          · intro w'
                            go_simp
                            with_reducible rfl
                          rotate_left
                          · simp only [Act.put, List.setIfInBounds_toArray, List.set_cons_zero, List.set_cons_succ, i64_w, i32_w]
                            rfl
                          refine pure_ (i := 3) (N := some 30) (v := ?_) (a' := ?_) #[true, true, true, true, false, false, false, false, false, false, false, false, false, false, false, false, false, false, false, false, false, false, false, false, false, false, false, false, false, false, false, false, false, false, false, false, false, false, false, false, false, false, false, false, false, false, false, false] rfl rfl (any_of HT_.out (by kernel_rfl)) (fun _ _ _ h => h) (Or.inl ⟨by rfl, ?_⟩) ?_ ?_
                          rotate_left
                          · intro w'
                            go_simp
                            with_reducible rfl
                          rotate_left
                          · simp only [Act.put, List.setIfInBounds_toArray, List.set_cons_zero, List.set_cons_succ, i64_w, i32_w]
                            rfl
                          refine pure_ (i := 4) (N := some 31) (v := ?_) (a' := ?_) #[true, true, true, true, true, false, false, false, false, false, false, false, false, false, false, false, false, false, false, false, false, false, false, false, false, false, false, false, false, false, false, false, false, false, false, false, false, false, false, false, false, false, false, false, false, false, false, false] rfl rfl (any_of HT_.out (by kernel_rfl)) (fun _ _ _ h => h) (Or.inl ⟨by rfl, ?_⟩) ?_ ?_
                          rotate_left
                          · intro w'
                            go_simp
                            with_reducible rfl
                          rotate_left
                          · simp only [Act.put, List.setIfInBounds_toArray, List.set_cons_zero, List.set_cons_succ, i64_w, i32_w]
                            rfl
                          refine one_ (i := 5) (N := some 32) #[true, true, true, true, true, true, false, false, false, false, false, false, false, false, false, false, false, false, false, false, false, false, false, false, false, false, false, false, false, false, false, false, false, false, false, false, false, false, false, false, false, false, false, false, false, false, false, false] rfl rfl (one_of HT_.out (by kernel_rfl)) (by decide) (fun K hK => ?_)
                          refine Kd.R_lit_step k23 _ 23 ?hg (N := 32) ?hd (xs := ([(⟨(⟨#[103, 112, 117]⟩ : ByteArray), (⟨#[121, 101, 115]⟩ : ByteArray), false, 0, 0⟩ : S23)] : List (S23))) (inner := [.string (⟨#[103, 112, 117]⟩ : ByteArray), .string (⟨#[121, 101, 115]⟩ : ByteArray), .bool false, .int .i64 0, .int .i64 0]) (ok := fun _ => True) (okp := fun _ => True) ?hr ?hp (fun _ hk => hk) trivial (Below.refl _ _) (Nat.le_refl _) (by simp) ?_; (case hd => rfl); (case hg => rfl); (case hr => first | (go_simp; done) | (go_simp; rfl)); (case hp => exact (Reps.c5 (show Kd.M k23 _ _ _ (⟨(⟨#[103, 112, 117]⟩ : ByteArray), (⟨#[121, 101, 115]⟩ : ByteArray), false, 0, 0⟩ : S23) [.string (⟨#[103, 112, 117]⟩ : ByteArray), .string (⟨#[121, 101, 115]⟩ : ByteArray), .bool false, .int .i64 0, .int .i64 0] from (k23_mkM _ _ _ (⟨(⟨#[103, 112, 117]⟩ : ByteArray), (⟨#[121, 101, 115]⟩ : ByteArray), false, 0, 0⟩ : S23) )) (Reps.none _ _)))
                          intro v154 w33 ho34 hb hg_ hnew_
                          have HS0_ := (hb.cell (World.block_lt_of_cell? _ _ (hHeld.1))).trans (hHeld.1)
                          have HS1_ := (hb.cell (World.block_lt_of_cell? _ _ (hHeld.2.1))).trans (hHeld.2.1)
                          have HS2_ := (hb.cell (World.block_lt_of_cell? _ _ (hHeld.2.2.1))).trans (hHeld.2.2.1)
                          have HS3_ := (hb.cell (World.block_lt_of_cell? _ _ (hHeld.2.2.2.1))).trans (hHeld.2.2.2.1)
                          have HS4_ := (hb.cell (World.block_lt_of_cell? _ _ (hHeld.2.2.2.2.1))).trans (hHeld.2.2.2.2.1)
                          have HS5_ := (hb.cell (World.block_lt_of_cell? _ _ (hHeld.2.2.2.2.2.1))).trans (hHeld.2.2.2.2.2.1)
                          have HS6_ := (hb.cell (World.block_lt_of_cell? _ _ (hHeld.2.2.2.2.2.2.1))).trans (hHeld.2.2.2.2.2.2.1)
                          have HS7_ := (hb.cell (World.block_lt_of_cell? _ _ (hHeld.2.2.2.2.2.2.2.1))).trans (hHeld.2.2.2.2.2.2.2.1)
                          have HS8_ := (hb.cell (World.block_lt_of_cell? _ _ (hHeld.2.2.2.2.2.2.2.2.1))).trans (hHeld.2.2.2.2.2.2.2.2.1)
                          have HS9_ := (hb.cell (World.block_lt_of_cell? _ _ (hHeld.2.2.2.2.2.2.2.2.2.1))).trans (hHeld.2.2.2.2.2.2.2.2.2.1)
                          have HS10_ := (hb.cell (World.block_lt_of_cell? _ _ (hHeld.2.2.2.2.2.2.2.2.2.2.1))).trans (hHeld.2.2.2.2.2.2.2.2.2.2.1)
                          have HS11_ := (hb.cell (World.block_lt_of_cell? _ _ (hHeld.2.2.2.2.2.2.2.2.2.2.2.1))).trans (hHeld.2.2.2.2.2.2.2.2.2.2.2.1)
                          have HS12_ := (hb.cell (World.block_lt_of_cell? _ _ (hHeld.2.2.2.2.2.2.2.2.2.2.2.2.1))).trans (hHeld.2.2.2.2.2.2.2.2.2.2.2.2.1)
                          have HS13_ := (hb.cell (World.block_lt_of_cell? _ _ (hHeld.2.2.2.2.2.2.2.2.2.2.2.2.2.1))).trans (hHeld.2.2.2.2.2.2.2.2.2.2.2.2.2.1)
                          have HS14_ := (hb.cell (World.block_lt_of_cell? _ _ (hHeld.2.2.2.2.2.2.2.2.2.2.2.2.2.2.1))).trans (hHeld.2.2.2.2.2.2.2.2.2.2.2.2.2.2.1)
                          have HS15_ := (hb.cell (World.block_lt_of_cell? _ _ (hHeld.2.2.2.2.2.2.2.2.2.2.2.2.2.2.2.1))).trans (hHeld.2.2.2.2.2.2.2.2.2.2.2.2.2.2.2.1)
                          have HS16_ := (hb.cell (World.block_lt_of_cell? _ _ (hHeld.2.2.2.2.2.2.2.2.2.2.2.2.2.2.2.2.1))).trans (hHeld.2.2.2.2.2.2.2.2.2.2.2.2.2.2.2.2.1)
                          have HS17_ := (hb.cell (World.block_lt_of_cell? _ _ (hHeld.2.2.2.2.2.2.2.2.2.2.2.2.2.2.2.2.2))).trans (hHeld.2.2.2.2.2.2.2.2.2.2.2.2.2.2.2.2.2)
                          clear hg_ hnew_
                          (first | rw [← Ny153.out] at ho34 | (simp only [Int.reduceToNat] at ho34; rw [← Ny153.out] at ho34))
                          have n0_ := Aside0.mk (Kd.R_below (by (with_reducible repeat (first | apply Kd.R_alloc | apply Kd.R_drewN | apply Kd.R_drew)); exact HO141.out) hb)
                          have n1_ := Aside0.mk (Kd.R_below (by (with_reducible repeat (first | apply Kd.R_alloc | apply Kd.R_drewN | apply Kd.R_drew)); exact HO144.out) hb)
                          have n2_ := Aside0.mk (Kd.R_elder' (by (with_reducible repeat (first | apply Kd.R_alloc | apply Kd.R_drewN | apply Kd.R_drew)); exact HO147.out) (Kd.R_base ho34) hb)
                          have n3_ := Aside0.mk (Kd.R_lower (Kd.R_new' ho34 (Kd.R_lt (by (with_reducible repeat (first | apply Kd.R_alloc | apply Kd.R_drewN | apply Kd.R_drew)); exact HO147.out))) (below_size (by repeat (first | (with_reducible first | exact HB.out | apply below_alloc | apply pw_below_drewN | apply below_drew1) | exact HB.out))))
                          have n4_ := Aside0.mk (below_step (by repeat (first | (with_reducible first | exact HB.out | apply below_alloc | apply pw_below_drewN | apply below_drew1) | exact HB.out)) hb)
                          clear HO141
                          clear HO144
                          clear HO147
                          clear HB
                          have HO141 := n0_
                          have HO144 := n1_
                          have HO147 := n2_
                          have HO155 := n3_
                          have HB := n4_
                          clear n0_ n1_ n2_ n3_ n4_
                          clear hb ho34
                          obtain ⟨Ao35, co35, eo35⟩ := Kd.R_slice HO155.out
                          (first | subst eo35 | (injection eo35 with f1_ f2_ f3_; have f4_ := f1_.symm; have f5_ := f3_.symm; clear f1_ f2_ f3_; subst f4_; subst f5_))
                          refine hK.out _ _ ⟨HS0_, HS1_, HS2_, HS3_, HS4_, HS5_, HS6_, HS7_, HS8_, HS9_, HS10_, HS11_, HS12_, HS13_, HS14_, HS15_, HS16_, HS17_⟩ (fun hHeld => ?_)
                          clear hK K
                          refine norm_ (a' := ?_) ?_ ?_
                          rotate_left
                          · show Act.put _ (some 32) _ = _
                            simp only [Act.put, List.setIfInBounds_toArray, List.set_cons_zero, List.set_cons_succ, i64_w, i32_w]
                            rfl
                          refine one_ (i := 6) (N := some 33) #[true, true, true, true, true, true, true, false, false, false, false, false, false, false, false, false, false, false, false, false, false, false, false, false, false, false, false, false, false, false, false, false, false, false, false, false, false, false, false, false, false, false, false, false, false, false, false, false] rfl rfl (one_of HT_.out (by kernel_rfl)) (by decide) (fun K hK => ?_)
                          refine goes_ Try.func11 (by kernel_rfl) rfl #[.slice (some ad162) y139.length co31, .slice Ao35 y153.length co35] (by rfl) rfl rfl (by (try simp only [List.map_toArray, List.map_cons, List.map_nil]); first | done | rfl | (simp only [List.length_drop, List.length_take]; rfl)) ?_
                          with_reducible refine (taint_Blocks.calls k _ _ y139 _ _ y153 false _ ?side1 ?side2 ?side3 ?side4 A5.out).mono ?_
                          (case side1 => repeat (first | exact (Kd.R_reads' HO141.out).2.2 | (with_reducible refine Kd.C_alloc ?_ _) | (with_reducible refine Kd.C_drewN ?_ _) | (with_reducible refine Kd.C_drew ?_)))
                          (case side2 => exact (Kd.R_reads' HO141.out).2.1)
                          (case side3 => repeat (first | exact (Kd.R_reads' HO155.out).2.2 | (with_reducible refine Kd.C_alloc ?_ _) | (with_reducible refine Kd.C_drewN ?_ _) | (with_reducible refine Kd.C_drew ?_)))
                          (case side4 => exact (Kd.R_reads' HO155.out).2.1)
                          rintro e w36 ⟨rfl, hb⟩
                          have HS0_ := (hb.cell (World.block_lt_of_cell? _ _ (hHeld.1))).trans (hHeld.1)
                          have HS1_ := (hb.cell (World.block_lt_of_cell? _ _ (hHeld.2.1))).trans (hHeld.2.1)
                          have HS2_ := (hb.cell (World.block_lt_of_cell? _ _ (hHeld.2.2.1))).trans (hHeld.2.2.1)
                          have HS3_ := (hb.cell (World.block_lt_of_cell? _ _ (hHeld.2.2.2.1))).trans (hHeld.2.2.2.1)
                          have HS4_ := (hb.cell (World.block_lt_of_cell? _ _ (hHeld.2.2.2.2.1))).trans (hHeld.2.2.2.2.1)
                          have HS5_ := (hb.cell (World.block_lt_of_cell? _ _ (hHeld.2.2.2.2.2.1))).trans (hHeld.2.2.2.2.2.1)
                          have HS6_ := (hb.cell (World.block_lt_of_cell? _ _ (hHeld.2.2.2.2.2.2.1))).trans (hHeld.2.2.2.2.2.2.1)
                          have HS7_ := (hb.cell (World.block_lt_of_cell? _ _ (hHeld.2.2.2.2.2.2.2.1))).trans (hHeld.2.2.2.2.2.2.2.1)
                          have HS8_ := (hb.cell (World.block_lt_of_cell? _ _ (hHeld.2.2.2.2.2.2.2.2.1))).trans (hHeld.2.2.2.2.2.2.2.2.1)
                          have HS9_ := (hb.cell (World.block_lt_of_cell? _ _ (hHeld.2.2.2.2.2.2.2.2.2.1))).trans (hHeld.2.2.2.2.2.2.2.2.2.1)
                          have HS10_ := (hb.cell (World.block_lt_of_cell? _ _ (hHeld.2.2.2.2.2.2.2.2.2.2.1))).trans (hHeld.2.2.2.2.2.2.2.2.2.2.1)
                          have HS11_ := (hb.cell (World.block_lt_of_cell? _ _ (hHeld.2.2.2.2.2.2.2.2.2.2.2.1))).trans (hHeld.2.2.2.2.2.2.2.2.2.2.2.1)
                          have HS12_ := (hb.cell (World.block_lt_of_cell? _ _ (hHeld.2.2.2.2.2.2.2.2.2.2.2.2.1))).trans (hHeld.2.2.2.2.2.2.2.2.2.2.2.2.1)
                          have HS13_ := (hb.cell (World.block_lt_of_cell? _ _ (hHeld.2.2.2.2.2.2.2.2.2.2.2.2.2.1))).trans (hHeld.2.2.2.2.2.2.2.2.2.2.2.2.2.1)
                          have HS14_ := (hb.cell (World.block_lt_of_cell? _ _ (hHeld.2.2.2.2.2.2.2.2.2.2.2.2.2.2.1))).trans (hHeld.2.2.2.2.2.2.2.2.2.2.2.2.2.2.1)
                          have HS15_ := (hb.cell (World.block_lt_of_cell? _ _ (hHeld.2.2.2.2.2.2.2.2.2.2.2.2.2.2.2.1))).trans (hHeld.2.2.2.2.2.2.2.2.2.2.2.2.2.2.2.1)
                          have HS16_ := (hb.cell (World.block_lt_of_cell? _ _ (hHeld.2.2.2.2.2.2.2.2.2.2.2.2.2.2.2.2.1))).trans (hHeld.2.2.2.2.2.2.2.2.2.2.2.2.2.2.2.2.1)
                          have HS17_ := (hb.cell (World.block_lt_of_cell? _ _ (hHeld.2.2.2.2.2.2.2.2.2.2.2.2.2.2.2.2.2))).trans (hHeld.2.2.2.2.2.2.2.2.2.2.2.2.2.2.2.2.2)
                          refine ⟨_, rfl, ?_⟩
                          have n0_ := Aside0.mk (Kd.R_below (by (with_reducible repeat (first | apply Kd.R_alloc | apply Kd.R_drewN | apply Kd.R_drew)); exact HO141.out) hb)
                          have n1_ := Aside0.mk (Kd.R_below (by (with_reducible repeat (first | apply Kd.R_alloc | apply Kd.R_drewN | apply Kd.R_drew)); exact HO144.out) hb)
                          have n2_ := Aside0.mk (Kd.R_below (by (with_reducible repeat (first | apply Kd.R_alloc | apply Kd.R_drewN | apply Kd.R_drew)); exact HO147.out) hb)
                          have n3_ := Aside0.mk (Kd.R_below (by (with_reducible repeat (first | apply Kd.R_alloc | apply Kd.R_drewN | apply Kd.R_drew)); exact HO155.out) hb)
                          have n4_ := Aside0.mk (below_step (by repeat (first | (with_reducible first | exact HB.out | apply below_alloc | apply pw_below_drewN | apply below_drew1) | exact HB.out)) hb)
                          clear HO141
                          clear HO144
                          clear HO147
                          clear HO155
                          clear HB
                          have HO141 := n0_
                          have HO144 := n1_
                          have HO147 := n2_
                          have HO155 := n3_
                          have HB := n4_
                          clear n0_ n1_ n2_ n3_ n4_
                          (try clear hb)
                          (try clear hb2)
                          (try clear hk)
                          (try clear hi)
                          refine hK.out _ _ ⟨HS0_, HS1_, HS2_, HS3_, HS4_, HS5_, HS6_, HS7_, HS8_, HS9_, HS10_, HS11_, HS12_, HS13_, HS14_, HS15_, HS16_, HS17_⟩ (fun hHeld => ?_)
                          clear hK K
                          refine norm_ (a' := ?_) ?_ ?_
                          rotate_left
                          · show Act.put _ (some 33) _ = _
                            simp only [Act.put, List.setIfInBounds_toArray, List.set_cons_zero, List.set_cons_succ, i64_w, i32_w]
                            rfl
                          refine pure_ (i := 7) (N := some 34) (v := ?_) (a' := ?_) #[true, true, true, true, true, true, true, true, false, false, false, false, false, false, false, false, false, false, false, false, false, false, false, false, false, false, false, false, false, false, false, false, false, false, false, false, false, false, false, false, false, false, false, false, false, false, false, false] rfl rfl (any_of HT_.out (by kernel_rfl)) (fun _ _ _ h => h) (Or.inl ⟨by rfl, ?_⟩) ?_ ?_
                          rotate_left
                          · intro w'
                            go_simp
                            with_reducible rfl
                          rotate_left
                          · simp only [Act.put, List.setIfInBounds_toArray, List.set_cons_zero, List.set_cons_succ, i64_w, i32_w]
                            rfl
                          refine pure_ (i := 8) (N := some 35) (v := ?_) (a' := ?_) #[true, true, true, true, true, true, true, true, true, false, false, false, false, false, false, false, false, false, false, false, false, false, false, false, false, false, false, false, false, false, false, false, false, false, false, false, false, false, false, false, false, false, false, false, false, false, false, false] rfl rfl (any_of HT_.out (by kernel_rfl)) (fun _ _ _ h => h) (Or.inl ⟨by rfl, ?_⟩) ?_ ?_
                          rotate_left
                          · intro w'
                            go_simp
                            with_reducible rfl
                          rotate_left
                          · simp only [Act.put, List.setIfInBounds_toArray, List.set_cons_zero, List.set_cons_succ, i64_w, i32_w]
                            rfl
                          refine pure_ (i := 9) (N := some 36) (v := ?_) (a' := ?_) #[true, true, true, true, true, true, true, true, true, true, false, false, false, false, false, false, false, false, false, false, false, false, false, false, false, false, false, false, false, false, false, false, false, false, false, false, false, false, false, false, false, false, false, false, false, false, false, false] rfl rfl (any_of HT_.out (by kernel_rfl)) (fun _ _ _ h => h) (Or.inl ⟨by rfl, ?_⟩) ?_ ?_
                          rotate_left
                          · intro w'
                            go_simp
                            with_reducible rfl
                          rotate_left
                          · simp only [Act.put, List.setIfInBounds_toArray, List.set_cons_zero, List.set_cons_succ, i64_w, i32_w]
                            rfl
                          refine pure_ (i := 10) (N := some 37) (v := ?_) (a' := ?_) #[true, true, true, true, true, true, true, true, true, true, true, false, false, false, false, false, false, false, false, false, false, false, false, false, false, false, false, false, false, false, false, false, false, false, false, false, false, false, false, false, false, false, false, false, false, false, false, false] rfl rfl (any_of HT_.out (by kernel_rfl)) (fun _ _ _ h => h) (Or.inl ⟨by rfl, ?_⟩) ?_ ?_
                          rotate_left
                          · intro w'
                            go_simp
                            with_reducible rfl
                          rotate_left
                          · simp only [Act.put, List.setIfInBounds_toArray, List.set_cons_zero, List.set_cons_succ, i64_w, i32_w]
                            rfl
                          refine one_ (i := 11) (N := some 38) #[true, true, true, true, true, true, true, true, true, true, true, true, false, false, false, false, false, false, false, false, false, false, false, false, false, false, false, false, false, false, false, false, false, false, false, false, false, false, false, false, false, false, false, false, false, false, false, false] rfl rfl (one_of HT_.out (by kernel_rfl)) (by decide) (fun K hK => ?_)
                          refine goes_ Try.func13 (by kernel_rfl) rfl #[.slice (some ad162) y139.length co31, .slice none 0 0] (by rfl) rfl rfl (by (try simp only [List.map_toArray, List.map_cons, List.map_nil]); first | done | rfl | (simp only [List.length_drop, List.length_take]; rfl)) ?_
                          refine (taint_Soft.calls k _ _ y139 _ _ ([] : List (S23)) t157 _ ?side1 ?side2 ?side3 ?side4 A7.out).mono ?_
                          (case side1 => repeat (first | exact (Kd.R_reads' HO141.out).2.2 | (with_reducible refine Kd.C_alloc ?_ _) | (with_reducible refine Kd.C_drewN ?_ _) | (with_reducible refine Kd.C_drew ?_)))
                          (case side2 => exact (Kd.R_reads' HO141.out).2.1)
                          (case side3 => exact Kd.C_nil _ _)
                          (case side4 => exact Nat.le_refl _)
                          rintro e w37 ⟨rfl, hb⟩
                          have HS0_ := (hb.cell (World.block_lt_of_cell? _ _ (hHeld.1))).trans (hHeld.1)
                          have HS1_ := (hb.cell (World.block_lt_of_cell? _ _ (hHeld.2.1))).trans (hHeld.2.1)
                          have HS2_ := (hb.cell (World.block_lt_of_cell? _ _ (hHeld.2.2.1))).trans (hHeld.2.2.1)
                          have HS3_ := (hb.cell (World.block_lt_of_cell? _ _ (hHeld.2.2.2.1))).trans (hHeld.2.2.2.1)
                          have HS4_ := (hb.cell (World.block_lt_of_cell? _ _ (hHeld.2.2.2.2.1))).trans (hHeld.2.2.2.2.1)
                          have HS5_ := (hb.cell (World.block_lt_of_cell? _ _ (hHeld.2.2.2.2.2.1))).trans (hHeld.2.2.2.2.2.1)
                          have HS6_ := (hb.cell (World.block_lt_of_cell? _ _ (hHeld.2.2.2.2.2.2.1))).trans (hHeld.2.2.2.2.2.2.1)
                          have HS7_ := (hb.cell (World.block_lt_of_cell? _ _ (hHeld.2.2.2.2.2.2.2.1))).trans (hHeld.2.2.2.2.2.2.2.1)
                          have HS8_ := (hb.cell (World.block_lt_of_cell? _ _ (hHeld.2.2.2.2.2.2.2.2.1))).trans (hHeld.2.2.2.2.2.2.2.2.1)
                          have HS9_ := (hb.cell (World.block_lt_of_cell? _ _ (hHeld.2.2.2.2.2.2.2.2.2.1))).trans (hHeld.2.2.2.2.2.2.2.2.2.1)
                          have HS10_ := (hb.cell (World.block_lt_of_cell? _ _ (hHeld.2.2.2.2.2.2.2.2.2.2.1))).trans (hHeld.2.2.2.2.2.2.2.2.2.2.1)
                          have HS11_ := (hb.cell (World.block_lt_of_cell? _ _ (hHeld.2.2.2.2.2.2.2.2.2.2.2.1))).trans (hHeld.2.2.2.2.2.2.2.2.2.2.2.1)
                          have HS12_ := (hb.cell (World.block_lt_of_cell? _ _ (hHeld.2.2.2.2.2.2.2.2.2.2.2.2.1))).trans (hHeld.2.2.2.2.2.2.2.2.2.2.2.2.1)
                          have HS13_ := (hb.cell (World.block_lt_of_cell? _ _ (hHeld.2.2.2.2.2.2.2.2.2.2.2.2.2.1))).trans (hHeld.2.2.2.2.2.2.2.2.2.2.2.2.2.1)
                          have HS14_ := (hb.cell (World.block_lt_of_cell? _ _ (hHeld.2.2.2.2.2.2.2.2.2.2.2.2.2.2.1))).trans (hHeld.2.2.2.2.2.2.2.2.2.2.2.2.2.2.1)
                          have HS15_ := (hb.cell (World.block_lt_of_cell? _ _ (hHeld.2.2.2.2.2.2.2.2.2.2.2.2.2.2.2.1))).trans (hHeld.2.2.2.2.2.2.2.2.2.2.2.2.2.2.2.1)
                          have HS16_ := (hb.cell (World.block_lt_of_cell? _ _ (hHeld.2.2.2.2.2.2.2.2.2.2.2.2.2.2.2.2.1))).trans (hHeld.2.2.2.2.2.2.2.2.2.2.2.2.2.2.2.2.1)
                          have HS17_ := (hb.cell (World.block_lt_of_cell? _ _ (hHeld.2.2.2.2.2.2.2.2.2.2.2.2.2.2.2.2.2))).trans (hHeld.2.2.2.2.2.2.2.2.2.2.2.2.2.2.2.2.2)
                          refine ⟨_, rfl, ?_⟩
                          have n0_ := Aside0.mk (Kd.R_below (by (with_reducible repeat (first | apply Kd.R_alloc | apply Kd.R_drewN | apply Kd.R_drew)); exact HO141.out) hb)
                          have n1_ := Aside0.mk (Kd.R_below (by (with_reducible repeat (first | apply Kd.R_alloc | apply Kd.R_drewN | apply Kd.R_drew)); exact HO144.out) hb)
                          have n2_ := Aside0.mk (Kd.R_below (by (with_reducible repeat (first | apply Kd.R_alloc | apply Kd.R_drewN | apply Kd.R_drew)); exact HO147.out) hb)
                          have n3_ := Aside0.mk (Kd.R_below (by (with_reducible repeat (first | apply Kd.R_alloc | apply Kd.R_drewN | apply Kd.R_drew)); exact HO155.out) hb)
                          have n4_ := Aside0.mk (below_step (by repeat (first | (with_reducible first | exact HB.out | apply below_alloc | apply pw_below_drewN | apply below_drew1) | exact HB.out)) hb)
                          clear HO141
                          clear HO144
                          clear HO147
                          clear HO155
                          clear HB
                          have HO141 := n0_
                          have HO144 := n1_
                          have HO147 := n2_
                          have HO155 := n3_
                          have HB := n4_
                          clear n0_ n1_ n2_ n3_ n4_
                          (try clear hb)
                          (try clear hb2)
                          (try clear hk)
                          (try clear hi)
                          refine hK.out _ _ ⟨HS0_, HS1_, HS2_, HS3_, HS4_, HS5_, HS6_, HS7_, HS8_, HS9_, HS10_, HS11_, HS12_, HS13_, HS14_, HS15_, HS16_, HS17_⟩ (fun hHeld => ?_)
                          clear hK K
                          refine norm_ (a' := ?_) ?_ ?_
                          rotate_left
                          · show Act.put _ (some 38) _ = _
                            simp only [Act.put, List.setIfInBounds_toArray, List.set_cons_zero, List.set_cons_succ, i64_w, i32_w]
                            rfl
                          refine pure_ (i := 12) (N := some 39) (v := ?_) (a' := ?_) #[true, true, true, true, true, true, true, true, true, true, true, true, true, false, false, false, false, false, false, false, false, false, false, false, false, false, false, false, false, false, false, false, false, false, false, false, false, false, false, false, false, false, false, false, false, false, false, false] rfl rfl (any_of HT_.out (by kernel_rfl)) (fun _ _ _ h => h) (Or.inl ⟨by rfl, ?_⟩) ?_ ?_
                          rotate_left
                          · intro w'
                            go_simp
                            with_reducible rfl
                          rotate_left
                          · simp only [Act.put, List.setIfInBounds_toArray, List.set_cons_zero, List.set_cons_succ, i64_w, i32_w]
                            rfl
                          refine pure_ (i := 13) (N := some 40) (v := ?_) (a' := ?_) #[true, true, true, true, true, true, true, true, true, true, true, true, true, true, false, false, false, false, false, false, false, false, false, false, false, false, false, false, false, false, false, false, false, false, false, false, false, false, false, false, false, false, false, false, false, false, false, false] rfl rfl (any_of HT_.out (by kernel_rfl)) (fun _ _ _ h => h) (Or.inl ⟨by rfl, ?_⟩) ?_ ?_
                          rotate_left
                          · intro w'
                            go_simp
                            with_reducible rfl
                          rotate_left
                          · simp only [Act.put, List.setIfInBounds_toArray, List.set_cons_zero, List.set_cons_succ, i64_w, i32_w]
                            rfl
                          refine pure_ (i := 14) (N := some 41) (v := ?_) (a' := ?_) #[true, true, true, true, true, true, true, true, true, true, true, true, true, true, true, false, false, false, false, false, false, false, false, false, false, false, false, false, false, false, false, false, false, false, false, false, false, false, false, false, false, false, false, false, false, false, false, false] rfl rfl (any_of HT_.out (by kernel_rfl)) (fun _ _ _ h => h) (Or.inl ⟨by rfl, ?_⟩) ?_ ?_
                          rotate_left
                          · intro w'
                            go_simp
                            with_reducible rfl
                          rotate_left
                          · simp only [Act.put, List.setIfInBounds_toArray, List.set_cons_zero, List.set_cons_succ, i64_w, i32_w]
                            rfl
                          refine pure_ (i := 15) (N := some 42) (v := ?_) (a' := ?_) #[true, true, true, true, true, true, true, true, true, true, true, true, true, true, true, true, false, false, false, false, false, false, false, false, false, false, false, false, false, false, false, false, false, false, false, false, false, false, false, false, false, false, false, false, false, false, false, false] rfl rfl (any_of HT_.out (by kernel_rfl)) (fun _ _ _ h => h) (Or.inl ⟨by rfl, ?_⟩) ?_ ?_
                          rotate_left
                          · intro w'
                            go_simp
                            with_reducible rfl
                          rotate_left
                          · simp only [Act.put, List.setIfInBounds_toArray, List.set_cons_zero, List.set_cons_succ, i64_w, i32_w]
                            rfl
                          refine pure_ (i := 16) (N := some 43) (v := ?_) (a' := ?_) #[true, true, true, true, true, true, true, true, true, true, true, true, true, true, true, true, true, false, false, false, false, false, false, false, false, false, false, false, false, false, false, false, false, false, false, false, false, false, false, false, false, false, false, false, false, false, false, false] rfl rfl (any_of HT_.out (by kernel_rfl)) (fun _ _ _ h => h) (Or.inl ⟨by rfl, ?_⟩) ?_ ?_
                          rotate_left
                          · intro w'
                            go_simp
                            with_reducible rfl
                          rotate_left
                          · simp only [Act.put, List.setIfInBounds_toArray, List.set_cons_zero, List.set_cons_succ, i64_w, i32_w]
                            rfl
                          refine pure_ (i := 18) (N := some 45) (v := ?_) (a' := ?_) #[true, true, true, true, true, true, true, true, true, true, true, true, true, true, true, true, true, false, true, false, false, false, false, false, false, false, false, false, false, false, false, false, false, false, false, false, false, false, false, false, false, false, false, false, false, false, false, false] rfl rfl (any_of HT_.out (by kernel_rfl)) (fun _ _ _ h => h) (Or.inl ⟨by rfl, ?_⟩) ?_ ?_
                          rotate_left
                          · intro w'
                            go_simp
                            with_reducible rfl
                          rotate_left
                          · simp only [Act.put, List.setIfInBounds_toArray, List.set_cons_zero, List.set_cons_succ, i64_w, i32_w]
                            rfl
                          refine pure_ (i := 19) (N := some 46) (v := ?_) (a' := ?_) #[true, true, true, true, true, true, true, true, true, true, true, true, true, true, true, true, true, false, true, true, false, false, false, false, false, false, false, false, false, false, false, false, false, false, false, false, false, false, false, false, false, false, false, false, false, false, false, false] rfl rfl (any_of HT_.out (by kernel_rfl)) (fun _ _ _ h => h) (Or.inl ⟨by rfl, ?_⟩) ?_ ?_
                          rotate_left
                          · intro w'
                            go_simp
                            with_reducible rfl
                          rotate_left
                          · simp only [Act.put, List.setIfInBounds_toArray, List.set_cons_zero, List.set_cons_succ, i64_w, i32_w]
                            rfl
                          refine take_ (i := 17) (N := some 44) (v := ?_) (a' := ?_) #[true, true, true, true, true, true, true, true, true, true, true, true, true, true, true, true, true, true, true, true, false, false, false, false, false, false, false, false, false, false, false, false, false, false, false, false, false, false, false, false, false, false, false, false, false, false, false, false] rfl rfl (take_ofW HT_.out HW_.out (by kernel_rfl)) (fun _ _ _ h => h) (Or.inl ⟨by rfl, ?_⟩) hHeld ?_ ?_
                          rotate_left
                          · rintro w' ⟨s0, s1, s2, s3, s4, s5, s6, s7, s8, s9, s10, s11, s12, s13, s14, s15, s16, s17⟩
                            go_simp
                            with_reducible rfl
                          rotate_left
                          · simp only [Act.put, List.setIfInBounds_toArray, List.set_cons_zero, List.set_cons_succ, i64_w, i32_w]
                            rfl
                          refine take_ (i := 20) (N := some 47) (v := ?_) (a' := ?_) #[true, true, true, true, true, true, true, true, true, true, true, true, true, true, true, true, true, true, true, true, true, false, false, false, false, false, false, false, false, false, false, false, false, false, false, false, false, false, false, false, false, false, false, false, false, false, false, false] rfl rfl (take_ofW HT_.out HW_.out (by kernel_rfl)) (fun _ _ _ h => h) (Or.inl ⟨by rfl, ?_⟩) hHeld ?_ ?_
                          rotate_left
                          · rintro w' ⟨s0, s1, s2, s3, s4, s5, s6, s7, s8, s9, s10, s11, s12, s13, s14, s15, s16, s17⟩
                            go_simp
                            with_reducible rfl
                          rotate_left
                          · simp only [Act.put, List.setIfInBounds_toArray, List.set_cons_zero, List.set_cons_succ, i64_w, i32_w]
                            rfl
                          refine one_ (i := 21) (N := some 48) #[true, true, true, true, true, true, true, true, true, true, true, true, true, true, true, true, true, true, true, true, true, true, false, false, false, false, false, false, false, false, false, false, false, false, false, false, false, false, false, false, false, false, false, false, false, false, false, false] rfl rfl (one_of HT_.out (by kernel_rfl)) (by decide) (fun K hK => ?_)
                          refine goes_ Try.func9 (by kernel_rfl) rfl #[.agg #[.string ((rd_T23 y145 1).f0), .string ((rd_T23 y145 1).f1), .bool ((rd_T23 y145 1).f2), .int .i64 ((rd_T23 y145 1).f3), .int .i64 ((rd_T23 y145 1).f4)], .agg #[.string ((rd_T25 y142 0).f0), .string ((rd_T25 y142 0).f1), .int .i64 ((rd_T25 y142 0).f2), .int .i64 ((rd_T25 y142 0).f3)]] (by rfl) rfl rfl (by (try simp only [List.map_toArray, List.map_cons, List.map_nil]); first | done | rfl | (simp only [List.length_drop, List.length_take]; rfl)) ?_
                          with_reducible refine (taint_Tolerates.calls ((rd_T23 y145 1).f0) ((rd_T23 y145 1).f1) ((rd_T23 y145 1).f2) ((rd_T23 y145 1).f3) ((rd_T23 y145 1).f4) ((rd_T25 y142 0).f0) ((rd_T25 y142 0).f1) ((rd_T25 y142 0).f2) ((rd_T25 y142 0).f3) true _ A11.out).mono ?_
                          rintro e w38 ⟨rfl, hb⟩
                          have HS0_ := (hb.cell (World.block_lt_of_cell? _ _ (hHeld.1))).trans (hHeld.1)
                          have HS1_ := (hb.cell (World.block_lt_of_cell? _ _ (hHeld.2.1))).trans (hHeld.2.1)
                          have HS2_ := (hb.cell (World.block_lt_of_cell? _ _ (hHeld.2.2.1))).trans (hHeld.2.2.1)
                          have HS3_ := (hb.cell (World.block_lt_of_cell? _ _ (hHeld.2.2.2.1))).trans (hHeld.2.2.2.1)
                          have HS4_ := (hb.cell (World.block_lt_of_cell? _ _ (hHeld.2.2.2.2.1))).trans (hHeld.2.2.2.2.1)
                          have HS5_ := (hb.cell (World.block_lt_of_cell? _ _ (hHeld.2.2.2.2.2.1))).trans (hHeld.2.2.2.2.2.1)
                          have HS6_ := (hb.cell (World.block_lt_of_cell? _ _ (hHeld.2.2.2.2.2.2.1))).trans (hHeld.2.2.2.2.2.2.1)
                          have HS7_ := (hb.cell (World.block_lt_of_cell? _ _ (hHeld.2.2.2.2.2.2.2.1))).trans (hHeld.2.2.2.2.2.2.2.1)
                          have HS8_ := (hb.cell (World.block_lt_of_cell? _ _ (hHeld.2.2.2.2.2.2.2.2.1))).trans (hHeld.2.2.2.2.2.2.2.2.1)
                          have HS9_ := (hb.cell (World.block_lt_of_cell? _ _ (hHeld.2.2.2.2.2.2.2.2.2.1))).trans (hHeld.2.2.2.2.2.2.2.2.2.1)
                          have HS10_ := (hb.cell (World.block_lt_of_cell? _ _ (hHeld.2.2.2.2.2.2.2.2.2.2.1))).trans (hHeld.2.2.2.2.2.2.2.2.2.2.1)
                          have HS11_ := (hb.cell (World.block_lt_of_cell? _ _ (hHeld.2.2.2.2.2.2.2.2.2.2.2.1))).trans (hHeld.2.2.2.2.2.2.2.2.2.2.2.1)
                          have HS12_ := (hb.cell (World.block_lt_of_cell? _ _ (hHeld.2.2.2.2.2.2.2.2.2.2.2.2.1))).trans (hHeld.2.2.2.2.2.2.2.2.2.2.2.2.1)
                          have HS13_ := (hb.cell (World.block_lt_of_cell? _ _ (hHeld.2.2.2.2.2.2.2.2.2.2.2.2.2.1))).trans (hHeld.2.2.2.2.2.2.2.2.2.2.2.2.2.1)
                          have HS14_ := (hb.cell (World.block_lt_of_cell? _ _ (hHeld.2.2.2.2.2.2.2.2.2.2.2.2.2.2.1))).trans (hHeld.2.2.2.2.2.2.2.2.2.2.2.2.2.2.1)
                          have HS15_ := (hb.cell (World.block_lt_of_cell? _ _ (hHeld.2.2.2.2.2.2.2.2.2.2.2.2.2.2.2.1))).trans (hHeld.2.2.2.2.2.2.2.2.2.2.2.2.2.2.2.1)
                          have HS16_ := (hb.cell (World.block_lt_of_cell? _ _ (hHeld.2.2.2.2.2.2.2.2.2.2.2.2.2.2.2.2.1))).trans (hHeld.2.2.2.2.2.2.2.2.2.2.2.2.2.2.2.2.1)
                          have HS17_ := (hb.cell (World.block_lt_of_cell? _ _ (hHeld.2.2.2.2.2.2.2.2.2.2.2.2.2.2.2.2.2))).trans (hHeld.2.2.2.2.2.2.2.2.2.2.2.2.2.2.2.2.2)
                          refine ⟨_, rfl, ?_⟩
                          have n0_ := Aside0.mk (Kd.R_below (by (with_reducible repeat (first | apply Kd.R_alloc | apply Kd.R_drewN | apply Kd.R_drew)); exact HO141.out) hb)
                          have n1_ := Aside0.mk (Kd.R_below (by (with_reducible repeat (first | apply Kd.R_alloc | apply Kd.R_drewN | apply Kd.R_drew)); exact HO144.out) hb)
                          have n2_ := Aside0.mk (Kd.R_below (by (with_reducible repeat (first | apply Kd.R_alloc | apply Kd.R_drewN | apply Kd.R_drew)); exact HO147.out) hb)
                          have n3_ := Aside0.mk (Kd.R_below (by (with_reducible repeat (first | apply Kd.R_alloc | apply Kd.R_drewN | apply Kd.R_drew)); exact HO155.out) hb)
                          have n4_ := Aside0.mk (below_step (by repeat (first | (with_reducible first | exact HB.out | apply below_alloc | apply pw_below_drewN | apply below_drew1) | exact HB.out)) hb)
                          clear HO141
                          clear HO144
                          clear HO147
                          clear HO155
                          clear HB
                          have HO141 := n0_
                          have HO144 := n1_
                          have HO147 := n2_
                          have HO155 := n3_
                          have HB := n4_
                          clear n0_ n1_ n2_ n3_ n4_
                          (try clear hb)
                          (try clear hb2)
                          (try clear hk)
                          (try clear hi)
                          refine hK.out _ _ ⟨HS0_, HS1_, HS2_, HS3_, HS4_, HS5_, HS6_, HS7_, HS8_, HS9_, HS10_, HS11_, HS12_, HS13_, HS14_, HS15_, HS16_, HS17_⟩ (fun hHeld => ?_)
                          clear hK K
                          refine norm_ (a' := ?_) ?_ ?_
                          rotate_left
                          · show Act.put _ (some 48) _ = _
                            simp only [Act.put, List.setIfInBounds_toArray, List.set_cons_zero, List.set_cons_succ, i64_w, i32_w]
                            rfl
                          refine pure_ (i := 22) (N := some 49) (v := ?_) (a' := ?_) #[true, true, true, true, true, true, true, true, true, true, true, true, true, true, true, true, true, true, true, true, true, true, true, false, false, false, false, false, false, false, false, false, false, false, false, false, false, false, false, false, false, false, false, false, false, false, false, false] rfl rfl (any_of HT_.out (by kernel_rfl)) (fun _ _ _ h => h) (Or.inl ⟨by rfl, ?_⟩) ?_ ?_
                          rotate_left
                          · intro w'
                            go_simp
                            with_reducible rfl
                          rotate_left
                          · simp only [Act.put, List.setIfInBounds_toArray, List.set_cons_zero, List.set_cons_succ, i64_w, i32_w]
                            rfl
                          refine pure_ (i := 23) (N := some 50) (v := ?_) (a' := ?_) #[true, true, true, true, true, true, true, true, true, true, true, true, true, true, true, true, true, true, true, true, true, true, true, true, false, false, false, false, false, false, false, false, false, false, false, false, false, false, false, false, false, false, false, false, false, false, false, false] rfl rfl (any_of HT_.out (by kernel_rfl)) (fun _ _ _ h => h) (Or.inl ⟨by rfl, ?_⟩) ?_ ?_
                          rotate_left
                          · intro w'
                            go_simp
                            with_reducible rfl
                          rotate_left
                          · simp only [Act.put, List.setIfInBounds_toArray, List.set_cons_zero, List.set_cons_succ, i64_w, i32_w]
                            rfl
                          refine pure_ (i := 24) (N := some 51) (v := ?_) (a' := ?_) #[true, true, true, true, true, true, true, true, true, true, true, true, true, true, true, true, true, true, true, true, true, true, true, true, true, false, false, false, false, false, false, false, false, false, false, false, false, false, false, false, false, false, false, false, false, false, false, false] rfl rfl (any_of HT_.out (by kernel_rfl)) (fun _ _ _ h => h) (Or.inl ⟨by rfl, ?_⟩) ?_ ?_
                          rotate_left
                          · intro w'
                            go_simp
                            with_reducible rfl
                          rotate_left
                          · simp only [Act.put, List.setIfInBounds_toArray, List.set_cons_zero, List.set_cons_succ, i64_w, i32_w]
                            rfl
                          refine pure_ (i := 25) (N := some 52) (v := ?_) (a' := ?_) #[true, true, true, true, true, true, true, true, true, true, true, true, true, true, true, true, true, true, true, true, true, true, true, true, true, true, false, false, false, false, false, false, false, false, false, false, false, false, false, false, false, false, false, false, false, false, false, false] rfl rfl (any_of HT_.out (by kernel_rfl)) (fun _ _ _ h => h) (Or.inl ⟨by rfl, ?_⟩) ?_ ?_
                          rotate_left
                          · intro w'
                            go_simp
                            with_reducible rfl
                          rotate_left
                          · simp only [Act.put, List.setIfInBounds_toArray, List.set_cons_zero, List.set_cons_succ, i64_w, i32_w]
                            rfl
                          refine pure_ (i := 27) (N := some 54) (v := ?_) (a' := ?_) #[true, true, true, true, true, true, true, true, true, true, true, true, true, true, true, true, true, true, true, true, true, true, true, true, true, true, false, true, false, false, false, false, false, false, false, false, false, false, false, false, false, false, false, false, false, false, false, false] rfl rfl (any_of HT_.out (by kernel_rfl)) (fun _ _ _ h => h) (Or.inl ⟨by rfl, ?_⟩) ?_ ?_
                          rotate_left
                          · intro w'
                            go_simp
                            with_reducible rfl
                          rotate_left
                          · simp only [Act.put, List.setIfInBounds_toArray, List.set_cons_zero, List.set_cons_succ, i64_w, i32_w]
                            rfl
                          refine pure_ (i := 28) (N := some 55) (v := ?_) (a' := ?_) #[true, true, true, true, true, true, true, true, true, true, true, true, true, true, true, true, true, true, true, true, true, true, true, true, true, true, false, true, true, false, false, false, false, false, false, false, false, false, false, false, false, false, false, false, false, false, false, false] rfl rfl (any_of HT_.out (by kernel_rfl)) (fun _ _ _ h => h) (Or.inl ⟨by rfl, ?_⟩) ?_ ?_
                          rotate_left
                          · intro w'
                            go_simp
                            with_reducible rfl
                          rotate_left
                          · simp only [Act.put, List.setIfInBounds_toArray, List.set_cons_zero, List.set_cons_succ, i64_w, i32_w]
                            rfl
                          refine take_ (i := 26) (N := some 53) (v := ?_) (a' := ?_) #[true, true, true, true, true, true, true, true, true, true, true, true, true, true, true, true, true, true, true, true, true, true, true, true, true, true, true, true, true, false, false, false, false, false, false, false, false, false, false, false, false, false, false, false, false, false, false, false] rfl rfl (take_ofW HT_.out HW_.out (by kernel_rfl)) (fun _ _ _ h => h) (Or.inl ⟨by rfl, ?_⟩) hHeld ?_ ?_
                          rotate_left
                          · rintro w' ⟨s0, s1, s2, s3, s4, s5, s6, s7, s8, s9, s10, s11, s12, s13, s14, s15, s16, s17⟩
                            go_simp
                            with_reducible rfl
                          rotate_left
                          · simp only [Act.put, List.setIfInBounds_toArray, List.set_cons_zero, List.set_cons_succ, i64_w, i32_w]
                            rfl
                          refine take_ (i := 29) (N := some 56) (v := ?_) (a' := ?_) #[true, true, true, true, true, true, true, true, true, true, true, true, true, true, true, true, true, true, true, true, true, true, true, true, true, true, true, true, true, true, false, false, false, false, false, false, false, false, false, false, false, false, false, false, false, false, false, false] rfl rfl (take_ofW HT_.out HW_.out (by kernel_rfl)) (fun _ _ _ h => h) (Or.inl ⟨by rfl, ?_⟩) hHeld ?_ ?_
                          rotate_left
                          · rintro w' ⟨s0, s1, s2, s3, s4, s5, s6, s7, s8, s9, s10, s11, s12, s13, s14, s15, s16, s17⟩
                            go_simp
                            with_reducible rfl
                          rotate_left
                          · simp only [Act.put, List.setIfInBounds_toArray, List.set_cons_zero, List.set_cons_succ, i64_w, i32_w]
                            rfl
                          refine one_ (i := 30) (N := some 57) #[true, true, true, true, true, true, true, true, true, true, true, true, true, true, true, true, true, true, true, true, true, true, true, true, true, true, true, true, true, true, true, false, false, false, false, false, false, false, false, false, false, false, false, false, false, false, false, false] rfl rfl (one_of HT_.out (by kernel_rfl)) (by decide) (fun K hK => ?_)
                          refine goes_ Try.func9 (by kernel_rfl) rfl #[.agg #[.string ((rd_T23 y145 1).f0), .string ((rd_T23 y145 1).f1), .bool ((rd_T23 y145 1).f2), .int .i64 ((rd_T23 y145 1).f3), .int .i64 ((rd_T23 y145 1).f4)], .agg #[.string ((rd_T25 y139 0).f0), .string ((rd_T25 y139 0).f1), .int .i64 ((rd_T25 y139 0).f2), .int .i64 ((rd_T25 y139 0).f3)]] (by rfl) rfl rfl (by (try simp only [List.map_toArray, List.map_cons, List.map_nil]); first | done | rfl | (simp only [List.length_drop, List.length_take]; rfl)) ?_
                          with_reducible refine (taint_Tolerates.calls ((rd_T23 y145 1).f0) ((rd_T23 y145 1).f1) ((rd_T23 y145 1).f2) ((rd_T23 y145 1).f3) ((rd_T23 y145 1).f4) ((rd_T25 y139 0).f0) ((rd_T25 y139 0).f1) ((rd_T25 y139 0).f2) ((rd_T25 y139 0).f3) false _ A14.out).mono ?_
                          rintro e w39 ⟨rfl, hb⟩
                          have HS0_ := (hb.cell (World.block_lt_of_cell? _ _ (hHeld.1))).trans (hHeld.1)
                          have HS1_ := (hb.cell (World.block_lt_of_cell? _ _ (hHeld.2.1))).trans (hHeld.2.1)
                          have HS2_ := (hb.cell (World.block_lt_of_cell? _ _ (hHeld.2.2.1))).trans (hHeld.2.2.1)
                          have HS3_ := (hb.cell (World.block_lt_of_cell? _ _ (hHeld.2.2.2.1))).trans (hHeld.2.2.2.1)
                          have HS4_ := (hb.cell (World.block_lt_of_cell? _ _ (hHeld.2.2.2.2.1))).trans (hHeld.2.2.2.2.1)
                          have HS5_ := (hb.cell (World.block_lt_of_cell? _ _ (hHeld.2.2.2.2.2.1))).trans (hHeld.2.2.2.2.2.1)
                          have HS6_ := (hb.cell (World.block_lt_of_cell? _ _ (hHeld.2.2.2.2.2.2.1))).trans (hHeld.2.2.2.2.2.2.1)
                          have HS7_ := (hb.cell (World.block_lt_of_cell? _ _ (hHeld.2.2.2.2.2.2.2.1))).trans (hHeld.2.2.2.2.2.2.2.1)
                          have HS8_ := (hb.cell (World.block_lt_of_cell? _ _ (hHeld.2.2.2.2.2.2.2.2.1))).trans (hHeld.2.2.2.2.2.2.2.2.1)
                          have HS9_ := (hb.cell (World.block_lt_of_cell? _ _ (hHeld.2.2.2.2.2.2.2.2.2.1))).trans (hHeld.2.2.2.2.2.2.2.2.2.1)
                          have HS10_ := (hb.cell (World.block_lt_of_cell? _ _ (hHeld.2.2.2.2.2.2.2.2.2.2.1))).trans (hHeld.2.2.2.2.2.2.2.2.2.2.1)
                          have HS11_ := (hb.cell (World.block_lt_of_cell? _ _ (hHeld.2.2.2.2.2.2.2.2.2.2.2.1))).trans (hHeld.2.2.2.2.2.2.2.2.2.2.2.1)
                          have HS12_ := (hb.cell (World.block_lt_of_cell? _ _ (hHeld.2.2.2.2.2.2.2.2.2.2.2.2.1))).trans (hHeld.2.2.2.2.2.2.2.2.2.2.2.2.1)
                          have HS13_ := (hb.cell (World.block_lt_of_cell? _ _ (hHeld.2.2.2.2.2.2.2.2.2.2.2.2.2.1))).trans (hHeld.2.2.2.2.2.2.2.2.2.2.2.2.2.1)
                          have HS14_ := (hb.cell (World.block_lt_of_cell? _ _ (hHeld.2.2.2.2.2.2.2.2.2.2.2.2.2.2.1))).trans (hHeld.2.2.2.2.2.2.2.2.2.2.2.2.2.2.1)
                          have HS15_ := (hb.cell (World.block_lt_of_cell? _ _ (hHeld.2.2.2.2.2.2.2.2.2.2.2.2.2.2.2.1))).trans (hHeld.2.2.2.2.2.2.2.2.2.2.2.2.2.2.2.1)
                          have HS16_ := (hb.cell (World.block_lt_of_cell? _ _ (hHeld.2.2.2.2.2.2.2.2.2.2.2.2.2.2.2.2.1))).trans (hHeld.2.2.2.2.2.2.2.2.2.2.2.2.2.2.2.2.1)
                          have HS17_ := (hb.cell (World.block_lt_of_cell? _ _ (hHeld.2.2.2.2.2.2.2.2.2.2.2.2.2.2.2.2.2))).trans (hHeld.2.2.2.2.2.2.2.2.2.2.2.2.2.2.2.2.2)
                          refine ⟨_, rfl, ?_⟩
                          have n0_ := Aside0.mk (Kd.R_below (by (with_reducible repeat (first | apply Kd.R_alloc | apply Kd.R_drewN | apply Kd.R_drew)); exact HO141.out) hb)
                          have n1_ := Aside0.mk (Kd.R_below (by (with_reducible repeat (first | apply Kd.R_alloc | apply Kd.R_drewN | apply Kd.R_drew)); exact HO144.out) hb)
                          have n2_ := Aside0.mk (Kd.R_below (by (with_reducible repeat (first | apply Kd.R_alloc | apply Kd.R_drewN | apply Kd.R_drew)); exact HO147.out) hb)
                          have n3_ := Aside0.mk (Kd.R_below (by (with_reducible repeat (first | apply Kd.R_alloc | apply Kd.R_drewN | apply Kd.R_drew)); exact HO155.out) hb)
                          have n4_ := Aside0.mk (below_step (by repeat (first | (with_reducible first | exact HB.out | apply below_alloc | apply pw_below_drewN | apply below_drew1) | exact HB.out)) hb)
                          clear HO141
                          clear HO144
                          clear HO147
                          clear HO155
                          clear HB
                          have HO141 := n0_
                          have HO144 := n1_
                          have HO147 := n2_
                          have HO155 := n3_
                          have HB := n4_
                          clear n0_ n1_ n2_ n3_ n4_
                          (try clear hb)
                          (try clear hb2)
                          (try clear hk)
                          (try clear hi)
                          refine hK.out _ _ ⟨HS0_, HS1_, HS2_, HS3_, HS4_, HS5_, HS6_, HS7_, HS8_, HS9_, HS10_, HS11_, HS12_, HS13_, HS14_, HS15_, HS16_, HS17_⟩ (fun hHeld => ?_)
                          clear hK K
                          refine norm_ (a' := ?_) ?_ ?_
                          rotate_left
                          · show Act.put _ (some 57) _ = _
                            simp only [Act.put, List.setIfInBounds_toArray, List.set_cons_zero, List.set_cons_succ, i64_w, i32_w]
                            rfl
                          refine pure_ (i := 31) (N := some 58) (v := ?_) (a' := ?_) #[true, true, true, true, true, true, true, true, true, true, true, true, true, true, true, true, true, true, true, true, true, true, true, true, true, true, true, true, true, true, true, true, false, false, false, false, false, false, false, false, false, false, false, false, false, false, false, false] rfl rfl (any_of HT_.out (by kernel_rfl)) (fun _ _ _ h => h) (Or.inl ⟨by rfl, ?_⟩) ?_ ?_
                          rotate_left
                          · intro w'
                            go_simp
                            with_reducible rfl
                          rotate_left
                          · simp only [Act.put, List.setIfInBounds_toArray, List.set_cons_zero, List.set_cons_succ, i64_w, i32_w]
                            rfl
                          refine pure_ (i := 32) (N := some 59) (v := ?_) (a' := ?_) #[true, true, true, true, true, true, true, true, true, true, true, true, true, true, true, true, true, true, true, true, true, true, true, true, true, true, true, true, true, true, true, true, true, false, false, false, false, false, false, false, false, false, false, false, false, false, false, false] rfl rfl (any_of HT_.out (by kernel_rfl)) (fun _ _ _ h => h) (Or.inl ⟨by rfl, ?_⟩) ?_ ?_
                          rotate_left
                          · intro w'
                            go_simp
                            with_reducible rfl
                          rotate_left
                          · simp only [Act.put, List.setIfInBounds_toArray, List.set_cons_zero, List.set_cons_succ, i64_w, i32_w]
                            rfl
                          refine pure_ (i := 33) (N := some 60) (v := ?_) (a' := ?_) #[true, true, true, true, true, true, true, true, true, true, true, true, true, true, true, true, true, true, true, true, true, true, true, true, true, true, true, true, true, true, true, true, true, true, false, false, false, false, false, false, false, false, false, false, false, false, false, false] rfl rfl (any_of HT_.out (by kernel_rfl)) (fun _ _ _ h => h) (Or.inl ⟨by rfl, ?_⟩) ?_ ?_
                          rotate_left
                          · intro w'
                            go_simp
                            with_reducible rfl
                          rotate_left
                          · simp only [Act.put, List.setIfInBounds_toArray, List.set_cons_zero, List.set_cons_succ, i64_w, i32_w]
                            rfl
                          refine pure_ (i := 34) (N := some 61) (v := ?_) (a' := ?_) #[true, true, true, true, true, true, true, true, true, true, true, true, true, true, true, true, true, true, true, true, true, true, true, true, true, true, true, true, true, true, true, true, true, true, true, false, false, false, false, false, false, false, false, false, false, false, false, false] rfl rfl (any_of HT_.out (by kernel_rfl)) (fun _ _ _ h => h) (Or.inl ⟨by rfl, ?_⟩) ?_ ?_
                          rotate_left
                          · intro w'
                            go_simp
                            with_reducible rfl
                          rotate_left
                          · simp only [Act.put, List.setIfInBounds_toArray, List.set_cons_zero, List.set_cons_succ, i64_w, i32_w]
                            rfl
                          refine pure_ (i := 35) (N := some 62) (v := ?_) (a' := ?_) #[true, true, true, true, true, true, true, true, true, true, true, true, true, true, true, true, true, true, true, true, true, true, true, true, true, true, true, true, true, true, true, true, true, true, true, true, false, false, false, false, false, false, false, false, false, false, false, false] rfl rfl (any_of HT_.out (by kernel_rfl)) (fun _ _ _ h => h) (Or.inl ⟨by rfl, ?_⟩) ?_ ?_
                          rotate_left
                          · intro w'
                            go_simp
                            with_reducible rfl
                          rotate_left
                          · simp only [Act.put, List.setIfInBounds_toArray, List.set_cons_zero, List.set_cons_succ, i64_w, i32_w]
                            rfl
                          refine pure_ (i := 36) (N := some 63) (v := ?_) (a' := ?_) #[true, true, true, true, true, true, true, true, true, true, true, true, true, true, true, true, true, true, true, true, true, true, true, true, true, true, true, true, true, true, true, true, true, true, true, true, true, false, false, false, false, false, false, false, false, false, false, false] rfl rfl (any_of HT_.out (by kernel_rfl)) (fun _ _ _ h => h) (Or.inl ⟨by rfl, ?_⟩) ?_ ?_
                          rotate_left
                          · intro w'
                            go_simp
                            with_reducible rfl
                          rotate_left
                          · simp only [Act.put, List.setIfInBounds_toArray, List.set_cons_zero, List.set_cons_succ, i64_w, i32_w]
                            rfl
                          refine pure_ (i := 37) (N := some 64) (v := ?_) (a' := ?_) #[true, true, true, true, true, true, true, true, true, true, true, true, true, true, true, true, true, true, true, true, true, true, true, true, true, true, true, true, true, true, true, true, true, true, true, true, true, true, false, false, false, false, false, false, false, false, false, false] rfl rfl (any_of HT_.out (by kernel_rfl)) (fun _ _ _ h => h) (Or.inl ⟨by rfl, ?_⟩) ?_ ?_
                          rotate_left
                          · intro w'
                            go_simp
                            with_reducible rfl
                          rotate_left
                          · simp only [Act.put, List.setIfInBounds_toArray, List.set_cons_zero, List.set_cons_succ, i64_w, i32_w]
                            rfl
                          refine pure_ (i := 38) (N := some 65) (v := ?_) (a' := ?_) #[true, true, true, true, true, true, true, true, true, true, true, true, true, true, true, true, true, true, true, true, true, true, true, true, true, true, true, true, true, true, true, true, true, true, true, true, true, true, true, false, false, false, false, false, false, false, false, false] rfl rfl (any_of HT_.out (by kernel_rfl)) (fun _ _ _ h => h) (Or.inl ⟨by rfl, ?_⟩) ?_ ?_
                          rotate_left
                          · intro w'
                            go_simp
                            with_reducible rfl
                          rotate_left
                          · simp only [Act.put, List.setIfInBounds_toArray, List.set_cons_zero, List.set_cons_succ, i64_w, i32_w]
                            rfl
                          refine pure_ (i := 39) (N := some 66) (v := ?_) (a' := ?_) #[true, true, true, true, true, true, true, true, true, true, true, true, true, true, true, true, true, true, true, true, true, true, true, true, true, true, true, true, true, true, true, true, true, true, true, true, true, true, true, true, false, false, false, false, false, false, false, false] rfl rfl (any_of HT_.out (by kernel_rfl)) (fun _ _ _ h => h) (Or.inl ⟨by rfl, ?_⟩) ?_ ?_
                          rotate_left
                          · intro w'
                            go_simp
                            with_reducible rfl
                          rotate_left
                          · simp only [Act.put, List.setIfInBounds_toArray, List.set_cons_zero, List.set_cons_succ, i64_w, i32_w]
                            rfl
                          refine pure_ (i := 40) (N := some 67) (v := ?_) (a' := ?_) #[true, true, true, true, true, true, true, true, true, true, true, true, true, true, true, true, true, true, true, true, true, true, true, true, true, true, true, true, true, true, true, true, true, true, true, true, true, true, true, true, true, false, false, false, false, false, false, false] rfl rfl (any_of HT_.out (by kernel_rfl)) (fun _ _ _ h => h) (Or.inl ⟨by rfl, ?_⟩) ?_ ?_
                          rotate_left
                          · intro w'
                            go_simp
                            with_reducible rfl
                          rotate_left
                          · simp only [Act.put, List.setIfInBounds_toArray, List.set_cons_zero, List.set_cons_succ, i64_w, i32_w]
                            rfl
                          refine pure_ (i := 41) (N := some 68) (v := ?_) (a' := ?_) #[true, true, true, true, true, true, true, true, true, true, true, true, true, true, true, true, true, true, true, true, true, true, true, true, true, true, true, true, true, true, true, true, true, true, true, true, true, true, true, true, true, true, false, false, false, false, false, false] rfl rfl (any_of HT_.out (by kernel_rfl)) (fun _ _ _ h => h) (Or.inl ⟨by rfl, ?_⟩) ?_ ?_
                          rotate_left
                          · intro w'
                            go_simp
                            with_reducible rfl
                          rotate_left
                          · simp only [Act.put, List.setIfInBounds_toArray, List.set_cons_zero, List.set_cons_succ, i64_w, i32_w]
                            rfl
                          refine pure_ (i := 42) (N := some 69) (v := ?_) (a' := ?_) #[true, true, true, true, true, true, true, true, true, true, true, true, true, true, true, true, true, true, true, true, true, true, true, true, true, true, true, true, true, true, true, true, true, true, true, true, true, true, true, true, true, true, true, false, false, false, false, false] rfl rfl (any_of HT_.out (by kernel_rfl)) (fun _ _ _ h => h) (Or.inl ⟨by rfl, ?_⟩) ?_ ?_
                          rotate_left
                          · intro w'
                            go_simp
                            with_reducible rfl
                          rotate_left
                          · simp only [Act.put, List.setIfInBounds_toArray, List.set_cons_zero, List.set_cons_succ, i64_w, i32_w]
                            rfl
                          refine pure_ (i := 43) (N := some 70) (v := ?_) (a' := ?_) #[true, true, true, true, true, true, true, true, true, true, true, true, true, true, true, true, true, true, true, true, true, true, true, true, true, true, true, true, true, true, true, true, true, true, true, true, true, true, true, true, true, true, true, true, false, false, false, false] rfl rfl (any_of HT_.out (by kernel_rfl)) (fun _ _ _ h => h) (Or.inl ⟨by rfl, ?_⟩) ?_ ?_
                          rotate_left
                          · intro w'
                            go_simp
                            with_reducible rfl
                          rotate_left
                          · simp only [Act.put, List.setIfInBounds_toArray, List.set_cons_zero, List.set_cons_succ, i64_w, i32_w]
                            rfl
                          refine pure_ (i := 44) (N := some 71) (v := ?_) (a' := ?_) #[true, true, true, true, true, true, true, true, true, true, true, true, true, true, true, true, true, true, true, true, true, true, true, true, true, true, true, true, true, true, true, true, true, true, true, true, true, true, true, true, true, true, true, true, true, false, false, false] rfl rfl (any_of HT_.out (by kernel_rfl)) (fun _ _ _ h => h) (Or.inl ⟨by rfl, ?_⟩) ?_ ?_
                          rotate_left
                          · intro w'
                            go_simp
                            with_reducible rfl
                          rotate_left
                          · simp only [Act.put, List.setIfInBounds_toArray, List.set_cons_zero, List.set_cons_succ, i64_w, i32_w]
                            rfl
                          refine pure_ (i := 45) (N := some 72) (v := ?_) (a' := ?_) #[true, true, true, true, true, true, true, true, true, true, true, true, true, true, true, true, true, true, true, true, true, true, true, true, true, true, true, true, true, true, true, true, true, true, true, true, true, true, true, true, true, true, true, true, true, true, false, false] rfl rfl (any_of HT_.out (by kernel_rfl)) (fun _ _ _ h => h) (Or.inl ⟨by rfl, ?_⟩) ?_ ?_
                          rotate_left
                          · intro w'
                            go_simp
                            with_reducible rfl
                          rotate_left
                          · simp only [Act.put, List.setIfInBounds_toArray, List.set_cons_zero, List.set_cons_succ, i64_w, i32_w]
                            rfl
                          refine pure_ (i := 46) (N := some 73) (v := ?_) (a' := ?_) #[true, true, true, true, true, true, true, true, true, true, true, true, true, true, true, true, true, true, true, true, true, true, true, true, true, true, true, true, true, true, true, true, true, true, true, true, true, true, true, true, true, true, true, true, true, true, true, false] rfl rfl (any_of HT_.out (by kernel_rfl)) (fun _ _ _ h => h) (Or.inl ⟨by rfl, ?_⟩) ?_ ?_
                          rotate_left
                          · intro w'
                            go_simp
                            with_reducible rfl
                          rotate_left
                          · simp only [Act.put, List.setIfInBounds_toArray, List.set_cons_zero, List.set_cons_succ, i64_w, i32_w]
                            rfl
                          refine pure_ (i := 47) (N := some 0) (v := ?_) (a' := ?_) #[true, true, true, true, true, true, true, true, true, true, true, true, true, true, true, true, true, true, true, true, true, true, true, true, true, true, true, true, true, true, true, true, true, true, true, true, true, true, true, true, true, true, true, true, true, true, true, true] rfl rfl (any_of HT_.out (by kernel_rfl)) (fun _ _ _ h => h) (Or.inl ⟨by rfl, ?_⟩) ?_ ?_
                          rotate_left
                          · intro w'
                            go_simp
                            with_reducible rfl
                          rotate_left
                          · simp only [Act.put, List.setIfInBounds_toArray, List.set_cons_zero, List.set_cons_succ, i64_w, i32_w]
                            rfl
                          refine done_ (done_of HT_.out (by kernel_rfl)) ?_
                          try go_wp2
                          go_ret
                          exact ⟨by first | rfl | (simp [errW_none, errW_some] <;> rfl) | (simp [*, errW_none, errW_some] <;> rfl), by repeat (first | (with_reducible first | exact HB.out | apply below_alloc | apply pw_below_drewN | apply below_drew1) | exact HB.out)⟩
                        · replace c19 := Bool.eq_false_iff.mpr c19
                          subst c19
                          have H1 : (some false) = some true := by first | (rw [if_neg (show ¬ (false = true) by decide)] at H; exact H) | rfl
                          clear H
                          have H := H1
                          clear H1
                          exact absurd H (by simp)
                      · rw [if_neg c18] at H
                        have c18b0 : (t150 == 100) = false := beq_eq_false_iff_ne.mpr c18
                        have c18b1 : (t150 != 100) = true := bne_iff_ne.mpr c18
                        exact absurd H (by simp)
                    · replace c17 := Bool.eq_false_iff.mpr c17
                      subst c17
                      have H1 : (some false) = some true := by first | (rw [if_neg (show ¬ (false = true) by decide)] at H; exact H) | rfl
                      clear H
                      have H := H1
                      clear H1
                      exact absurd H (by simp)
                  · rw [if_neg c16] at H
                    have c16b0 : (t148 == 130) = false := beq_eq_false_iff_ne.mpr c16
                    have c16b1 : (t148 != 130) = true := bne_iff_ne.mpr c16
                    exact absurd H (by simp)
              · rw [if_neg c13] at H
                exact absurd H (by simp)
            · replace c12 := Bool.eq_false_iff.mpr c12
              subst c12
              have H1 : (some false) = some true := by first | (rw [if_neg (show ¬ (false = true) by decide)] at H; exact H) | rfl
              clear H
              have H := H1
              clear H1
              exact absurd H (by simp)
          · rw [if_neg c10] at H
            exact absurd H (by simp)
        · rw [if_neg c9] at H
          exact absurd H (by simp)
      · rw [if_neg c8] at H
        have c8b0 : (t157 == 1) = false := beq_eq_false_iff_ne.mpr c8
        have c8b1 : (t157 != 1) = true := bne_iff_ne.mpr c8
        exact absurd H (by simp)
  · replace c4 := Bool.eq_false_iff.mpr c4
    subst c4
    have H1 : (some false) = some true := by first | (rw [if_neg (show ¬ (false = true) by decide)] at H; exact H) | rfl
    clear H
    have H := H1
    clear H1
    exact absurd H (by simp)

end Go.Proofs.Ytkhmcockeikobaa.Q
