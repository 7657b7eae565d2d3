/- The pure statement of TaintBlocks. Conditions: none. -/
import Derived.Test.YtkhmcockeikobaaQSTaintBlocks
import Derived.Test.YtkhmcockeikobaaPRef
import Derived.Test.YtkhmcockeikobaaPLives
namespace Go.Proofs.Ytkhmcockeikobaa.Pure
open Go.RowKit Go.Proofs.Ytkhmcockeikobaa.Q Go.Proofs.Ytkhmcockeikobaa.Opn Go.Proofs.YtkhmcockeikobaaW.PrintWords Go.Proofs.YtkhmcockeikobaaW.PrintLast Go.Proofs.YtkhmcockeikobaaW.PrintMore Go.Proofs.Ytkhmcockeikobaa.Pur
set_option linter.unusedVariables false
theorem tb_j0 (x : List S25) (t : List S23) (b : Bool) (h : b = false → x.length ≤ 50 ∧ t.length ≤ 50) : Ev (fun k => orchestratorlaw35_TaintBlocks.j0 k x t b) true := by
  refine Ev.step (fun k => rfl) ?_
  simp only [orchestratorlaw35_TaintBlocks.j0]
  cases b with
  | true => simp only [if_true]; exact Ev.bind lives_ev (Ev.now _)
  | false =>
    obtain ⟨hx, ht⟩ := h rfl
    simp only [Bool.false_eq_true, if_false]
    refine Ev.bind lives_ev ?_
    simp only [if_true]
    refine Ev.bind (blocks_ev x t (by omega) (by omega)) (Ev.bind (rblocks_ev x t (by omega) (by omega)) ?_)
    simp only [BEq.rfl, if_true]
    refine Ev.bind (soft_ev x t (by omega) (by omega)) (Ev.bind (rsoft_ev x t (by omega) (by omega)) ?_)
    simp only [if_true]
    exact Ev.now _
theorem TaintBlocks : orchestratorlaw35_TaintBlocks.Pure := by
  intro x t hx ht
  refine Ev.rounds (g := fun k => orchestratorlaw35_TaintBlocks.f k x t) ?_
  unfold orchestratorlaw35_TaintBlocks.f
  refine Ev.ite (fun h => tb_j0 _ _ _ (fun e => by cases e)) (fun h => tb_j0 _ _ _ (fun e => ?_))
  have := of_decide_eq_false e
  omega
end Go.Proofs.Ytkhmcockeikobaa.Pure
