/- Part of a claim: see its row. Conditions: stated at each. -/
import Derived.Test.YthkdpkgkejdcgaaZEQX
import Derived.Test.YthkdpkgkejdcgaaZEQ16
namespace Go.Proofs.Ythkdpkgkejdcgaa.Q
open Go.RowKit Go.Proofs.Ythkdpkgkejdcgaa.Opn
def orchestratorlaw21_DeletionEnds.Pure : Prop := ∀ (x0 : S33) (x1 : Int) (x2 : Int) (x3 : Int), X33 x0 → I64 x1 → I64 x2 → I64 x3 → ∃ k, orchestratorlaw21_DeletionEnds.f k x0.f0.f0 x0.f0.f1 x0.f0.f2 x0.f0.f3 x0.f0.f4 x0.f0.f5 x0.f0.f6 x0.f0.f7 x0.f0.f8 x0.f0.f9 x0.f0.f10 x0.f0.f11 x0.f0.f12 x0.f1.f0 x0.f1.f1 x0.f1.f2 x0.f1.f3 x0.f1.f4 x0.f2.f0 x0.f2.f1 x0.f2.f2 x0.f2.f3 x0.f2.f4 x1 x2 x3 = some true
end Go.Proofs.Ythkdpkgkejdcgaa.Q
