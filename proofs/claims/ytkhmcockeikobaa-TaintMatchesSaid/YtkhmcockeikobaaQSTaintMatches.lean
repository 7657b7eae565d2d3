/- The pure statement of the law TaintMatches: printed by a program of this claim's author. -/
import Derived.Test.YtkhmcockeikobaaQX
import Derived.Test.YtkhmcockeikobaaQ4
namespace Go.Proofs.Ytkhmcockeikobaa.Q
open Go.RowKit Go.Proofs.Ytkhmcockeikobaa.Opn
def orchestratorlaw35_TaintMatches.Pure : Prop := ∀ (x0 : S23) (x1 : S25), X23 x0 → X25 x1 → ∃ k, orchestratorlaw35_TaintMatches.f k x0.f0 x0.f1 x0.f2 x0.f3 x0.f4 x1.f0 x1.f1 x1.f2 x1.f3 = some true
end Go.Proofs.Ytkhmcockeikobaa.Q
