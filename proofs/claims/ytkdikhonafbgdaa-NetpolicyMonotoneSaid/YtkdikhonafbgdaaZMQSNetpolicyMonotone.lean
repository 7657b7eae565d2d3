/- Part of a claim: see its row. Conditions: stated at each. -/
import Derived.Test.YtkdikhonafbgdaaZMQX
import Derived.Test.YtkdikhonafbgdaaZMQ18
namespace Go.Proofs.Ytkdikhonafbgdaa.Q
open Go.RowKit Go.Proofs.Ytkdikhonafbgdaa.Opn
def orchestratorlaw57_NetpolicyMonotone.Pure : Prop := ∀ (x0 : List (S54)) (x1 : S41) (x2 : S41) (x3 : Int) (x4 : S54) (x5 : S58) (x6 : Int), (XL 248 X54) x0 → X41 x1 → X41 x2 → I64 x3 → X54 x4 → X58 x5 → I64 x6 → ∃ k, orchestratorlaw57_NetpolicyMonotone.f k x0 x1.f0.f0 x1.f0.f1 x1.f0.f2 x1.f0.f3 x1.f0.f4 x1.f0.f5 x1.f0.f6 x1.f0.f7 x1.f0.f8 x1.f0.f9 x1.f0.f10 x1.f0.f11 x1.f0.f12 x1.f1.f0 x1.f1.f1 x1.f1.f2 x1.f1.f3 x1.f1.f4 x1.f1.f5 x1.f1.f6 x1.f1.f7 x1.f1.f8 x1.f1.f9 x1.f2.f0 x1.f2.f1 x1.f2.f2 x1.f2.f3 x1.f2.f4 x1.f2.f5 x1.f2.f6 x1.f2.f7 x1.f2.f8 x2.f0.f0 x2.f0.f1 x2.f0.f2 x2.f0.f3 x2.f0.f4 x2.f0.f5 x2.f0.f6 x2.f0.f7 x2.f0.f8 x2.f0.f9 x2.f0.f10 x2.f0.f11 x2.f0.f12 x2.f1.f0 x2.f1.f1 x2.f1.f2 x2.f1.f3 x2.f1.f4 x2.f1.f5 x2.f1.f6 x2.f1.f7 x2.f1.f8 x2.f1.f9 x2.f2.f0 x2.f2.f1 x2.f2.f2 x2.f2.f3 x2.f2.f4 x2.f2.f5 x2.f2.f6 x2.f2.f7 x2.f2.f8 x3 x4.f0.f0 x4.f0.f1 x4.f0.f2 x4.f0.f3 x4.f0.f4 x4.f0.f5 x4.f0.f6 x4.f0.f7 x4.f0.f8 x4.f0.f9 x4.f0.f10 x4.f0.f11 x4.f0.f12 x4.f1 x4.f2 x4.f3 x4.f4 x5.f0 x5.f1 x5.f2 x6 = some true
end Go.Proofs.Ytkdikhonafbgdaa.Q
