/- The pure statement of the law TaintOrder: printed by a program of this claim's author. -/
import Derived.Test.YtkhmcockeikobaaQX
import Derived.Test.YtkhmcockeikobaaQ8
namespace Go.Proofs.Ytkhmcockeikobaa.Q
open Go.RowKit Go.Proofs.Ytkhmcockeikobaa.Opn
def orchestratorlaw35_TaintOrder.Pure : Prop := ∀ (x0 : List (S25)) (x1 : List (S23)), (XL 48 X25) x0 → (XL 56 X23) x1 → ∃ k, orchestratorlaw35_TaintOrder.f k x0 x1 = some true
end Go.Proofs.Ytkhmcockeikobaa.Q
