/- Part of a claim: see its row. Conditions: stated at each. -/
import Derived.Test.YtkdikhonafbgdaaZRQSNetpolicyReaches
import Derived.Test.YtkdikhonafbgdaaZRPReach
namespace Go.Proofs.Ytkdikhonafbgdaa.Pure
open Go.RowKit Go.Proofs.Ytkdikhonafbgdaa.Q Go.Proofs.Ytkdikhonafbgdaa.Opn Go.Proofs.YtkdikhonafbgdaaW.PrintWords Go.Proofs.YtkdikhonafbgdaaW.PrintLast Go.Proofs.YtkdikhonafbgdaaW.PrintMore Go.Proofs.Ytkdikhonafbgdaa.Pur
set_option linter.unusedVariables false
set_option linter.unusedSimpArgs false
theorem NetpolicyReaches : orchestratorlaw57_NetpolicyReaches.Pure := by
  intro l ps n hl hp _
  refine Ev.rounds (g := fun k => orchestratorlaw57_NetpolicyReaches.f k l ps n) ?_
  unfold orchestratorlaw57_NetpolicyReaches.f
  obtain ⟨b, hb⟩ := small_ex l hl
  have hlives : Ev (fun k => orchestratorlaw57_NetpolicyReaches.j0 k l ps n true) true := by
    refine Ev.step (fun k => rfl) ?_
    simp only [orchestratorlaw57_NetpolicyReaches.j0, if_true]
    refine Ev.bind lives_ev ?_
    simp only [if_true]
    exact Ev.now _
  refine Ev.bind hb (Ev.ite (fun h => ?_) (fun h => hlives))
  by_cases h12 : (ps.length : Int) > 12
  · rw [decide_eq_true h12]
    exact hlives
  · rw [decide_eq_false h12]
    refine Ev.step (fun k => rfl) ?_
    simp only [orchestratorlaw57_NetpolicyReaches.j0, Bool.false_eq_true, if_false]
    exact law_l0 l ps n hl hp (by omega) ps.length 0 (by omega) [] (by simp; omega) rfl
end Go.Proofs.Ytkdikhonafbgdaa.Pure
