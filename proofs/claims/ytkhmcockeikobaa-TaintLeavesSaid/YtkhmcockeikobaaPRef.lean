/- What the reference's Blocks and Soft come to. Conditions: lists of at most 2^40 elements. -/
import Derived.Test.YtkhmcockeikobaaQ5
import Derived.Test.YtkhmcockeikobaaPSpec
namespace Go.Proofs.Ytkhmcockeikobaa.Pure
open Go.RowKit Go.Proofs.Ytkhmcockeikobaa.Q Go.Proofs.Ytkhmcockeikobaa.Opn Go.Proofs.YtkhmcockeikobaaW.PrintWords Go.Proofs.YtkhmcockeikobaaW.PrintLast Go.Proofs.YtkhmcockeikobaaW.PrintMore Go.Proofs.Ytkhmcockeikobaa.Pur
set_option linter.unusedVariables false
set_option linter.unusedSimpArgs false
theorem matching_ev (x : S25) (t : List S23) (ht : t.length ≤ 1099511627776) : Ev (fun k => orchestratorref35_matching.f k x.f0 x.f1 x.f2 x.f3 t) (t.filter (fun y => tolB y x)) := by
  unfold orchestratorref35_matching.f
  have key : ∀ (d j : Nat), j + d = t.length → ∀ m : List S23, m.length ≤ j → Ev (fun k => orchestratorref35_matching.l0 k t m (j : Int) x.f0 x.f1 x.f2 x.f3) (m ++ (t.drop j).filter (fun y => tolB y x)) := by
    intro d
    induction d with
    | zero =>
      intro j hj m hm
      have : j = t.length := by omega
      subst this
      refine Ev.step (fun k => rfl) ?_
      simp only [orchestratorref35_matching.l0, Int.lt_irrefl, if_false, List.drop_length, List.filter_nil, List.append_nil]
      exact Ev.now _
    | succ d ih =>
      intro j hj m hm
      have hlt : j < t.length := by omega
      have h1 : (j : Int) < (t.length : Int) := by omega
      rw [List.drop_eq_getElem_cons hlt]
      refine Ev.step (fun k => rfl) ?_
      simp only [orchestratorref35_matching.l0, if_pos h1, if_pos (show (0 : Int) ≤ (j : Int) by omega), rd23 hlt, wrap_succ hlt (show t.length ≤ 4611686018427387904 by omega), rtol_some, Option.bind_some, if_pos (show m.length < 2513169434916 by omega)]
      by_cases hy : tolB t[j] x = true
      · simp only [if_pos hy]
        rw [List.filter_cons_of_pos (p := fun y => tolB y x) hy]
        refine Ev.eq (ih (j + 1) (by omega) (m ++ [t[j]]) (by simp; omega)) ?_
        rw [List.append_assoc]
        rfl
      · simp only [if_neg hy]
        rw [List.filter_cons_of_neg (p := fun y => tolB y x) hy]
        exact ih (j + 1) (by omega) m (by omega)
  have h := key t.length 0 (by omega) [] (by simp)
  simpa using h
theorem filter_zero (x : S25) (t : List S23) : (((t.filter (fun y => tolB y x)).length : Int) = 0) ↔ tolA x t = false := by
  unfold tolA
  rw [show (((t.filter (fun y => tolB y x)).length : Int) = 0) ↔ (t.filter (fun y => tolB y x)).length = 0 from by omega, List.length_eq_zero_iff]
  simp [List.filter_eq_nil_iff]
theorem rblocks_ev (x : List S25) (t : List S23) (hx : x.length ≤ 1099511627776) (ht : t.length ≤ 1099511627776) : Ev (fun k => orchestratorref35_Blocks.f k x t) (blocksS x t) := by
  unfold orchestratorref35_Blocks.f
  refine for_loop0 x (fun k (s : Unit) i => orchestratorref35_Blocks.l0 k x t i) (fun _ l => l.any (blk t)) ?_ ?_ ()
  · intro s
    refine Ev.step (fun k => rfl) ?_
    simp only [orchestratorref35_Blocks.l0, Int.lt_irrefl, if_false]
    exact Ev.now _
  · intro s j hj ih
    have h1 : (j : Int) < (x.length : Int) := by omega
    refine Ev.step (fun k => rfl) ?_
    simp only [orchestratorref35_Blocks.l0, if_pos h1, if_pos (show (0 : Int) ≤ (j : Int) by omega), rd25 hj, wrap_succ hj (show x.length ≤ 4611686018427387904 by omega), List.any_cons]
    refine Ev.ite (fun h => ?_) (fun h => Ev.ite (fun h' => ?_) (fun h' => ?_))
    · refine Ev.bind (matching_ev x[j] t ht) ?_
      simp only [filter_zero]
      refine Ev.ite (fun h2 => Ev.eq (Ev.now _) (by simp [blk, h, h2])) (fun h2 => Ev.eq (ih ()) (by simp [blk, h, h2]))
    · refine Ev.bind (matching_ev x[j] t ht) ?_
      simp only [filter_zero]
      refine Ev.ite (fun h2 => Ev.eq (Ev.now _) (by simp [blk, h', h2])) (fun h2 => Ev.eq (ih ()) (by simp [blk, h', h2]))
    · exact Ev.eq (ih ()) (by simp [blk, h, h'])
theorem rsoft_ev (x : List S25) (t : List S23) (hx : x.length ≤ 1099511627776) (ht : t.length ≤ 1099511627776) : Ev (fun k => orchestratorref35_Soft.f k x t) (softS x t) := by
  unfold orchestratorref35_Soft.f
  have key : ∀ (d j : Nat), j + d = x.length → ∀ n : Nat, n ≤ j → Ev (fun k => orchestratorref35_Soft.l0 k x t (n : Int) (j : Int)) (((n + ((x.drop j).filter (soft t)).length : Nat)) : Int) := by
    intro d
    induction d with
    | zero =>
      intro j hj n hn
      have : j = x.length := by omega
      subst this
      refine Ev.step (fun k => rfl) ?_
      simp only [orchestratorref35_Soft.l0, Int.lt_irrefl, if_false, List.drop_length, List.filter_nil, List.length_nil, Nat.add_zero]
      exact Ev.now _
    | succ d ih =>
      intro j hj n hn
      have hlt : j < x.length := by omega
      have h1 : (j : Int) < (x.length : Int) := by omega
      rw [List.drop_eq_getElem_cons hlt]
      refine Ev.step (fun k => rfl) ?_
      simp only [orchestratorref35_Soft.l0, if_pos h1, if_pos (show (0 : Int) ≤ (j : Int) by omega), rd25 hlt, wrap_succ hlt (show x.length ≤ 4611686018427387904 by omega)]
      refine Ev.ite (fun h => ?_) (fun h => ?_)
      · refine Ev.bind (matching_ev x[j] t ht) ?_
        simp only [filter_zero]
        refine Ev.ite (fun h' => ?_) (fun h' => ?_)
        · rw [show wrap64 ((n : Int) + 1) = ((n + 1 : Nat) : Int) from by unfold wrap64; omega]
          refine Ev.eq (ih (j + 1) (by omega) (n + 1) (by omega)) ?_
          rw [List.filter_cons_of_pos (by simp [soft, h, h'])]
          simp only [List.length_cons]
          omega
        · refine Ev.eq (ih (j + 1) (by omega) n (by omega)) ?_
          rw [List.filter_cons_of_neg (by simp [soft, h'])]
      · refine Ev.eq (ih (j + 1) (by omega) n (by omega)) ?_
        rw [List.filter_cons_of_neg (by simp [soft, h])]
  have h := key x.length 0 (by omega) 0 (by omega)
  simpa [softS] using h
end Go.Proofs.Ytkhmcockeikobaa.Pure
