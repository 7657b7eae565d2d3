/- The pure statement of the law TaintTolerated: printed by a program of this claim's author. -/
import Derived.Test.YtkhmcockeikobaaQX
import Derived.Test.YtkhmcockeikobaaQ7
namespace Go.Proofs.Ytkhmcockeikobaa.Q
open Go.RowKit Go.Proofs.Ytkhmcockeikobaa.Opn
def orchestratorlaw35_TaintTolerated.Pure : Prop := ∀ (x0 : List (S25)) (x1 : List (S23)) (x2 : S25) (x3 : S23), (XL 48 X25) x0 → (XL 56 X23) x1 → X25 x2 → X23 x3 → ∃ k, orchestratorlaw35_TaintTolerated.f k x0 x1 x2.f0 x2.f1 x2.f2 x2.f3 x3.f0 x3.f1 x3.f2 x3.f3 x3.f4 = some true
end Go.Proofs.Ytkhmcockeikobaa.Q
