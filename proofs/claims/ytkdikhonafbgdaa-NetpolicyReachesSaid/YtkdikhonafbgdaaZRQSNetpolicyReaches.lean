/- Part of a claim: see its row. Conditions: stated at each. -/
import Derived.Test.YtkdikhonafbgdaaZRQX
import Derived.Test.YtkdikhonafbgdaaZRQ16
namespace Go.Proofs.Ytkdikhonafbgdaa.Q
open Go.RowKit Go.Proofs.Ytkdikhonafbgdaa.Opn
def orchestratorlaw57_NetpolicyReaches.Pure : Prop := ∀ (x0 : List (S54)) (x1 : List (S41)) (x2 : Int), (XL 248 X54) x0 → (XL 480 X41) x1 → I64 x2 → ∃ k, orchestratorlaw57_NetpolicyReaches.f k x0 x1 x2 = some true
end Go.Proofs.Ytkdikhonafbgdaa.Q
