/- The pure statement of TaintMatches. Conditions: none. -/
import Derived.Test.YtkhmcockeikobaaQSTaintMatches
import Derived.Test.YtkhmcockeikobaaPTol
import Derived.Test.YtkhmcockeikobaaPLives
namespace Go.Proofs.Ytkhmcockeikobaa.Pure
open Go.RowKit Go.Proofs.Ytkhmcockeikobaa.Q Go.Proofs.Ytkhmcockeikobaa.Opn Go.Proofs.YtkhmcockeikobaaW.PrintWords Go.Proofs.YtkhmcockeikobaaW.PrintLast Go.Proofs.YtkhmcockeikobaaW.PrintMore Go.Proofs.Ytkhmcockeikobaa.Pur
theorem TaintMatches : orchestratorlaw35_TaintMatches.Pure := by
  intro x0 x1 h0 h1
  refine Ev.rounds (g := fun k => orchestratorlaw35_TaintMatches.f k x0.f0 x0.f1 x0.f2 x0.f3 x0.f4 x1.f0 x1.f1 x1.f2 x1.f3) ?_
  unfold orchestratorlaw35_TaintMatches.f
  refine Ev.bind lives_ev ?_
  simp only [if_true, tol_some, rtol_some, Option.bind_some, BEq.rfl]
  exact Ev.now _
end Go.Proofs.Ytkhmcockeikobaa.Pure
