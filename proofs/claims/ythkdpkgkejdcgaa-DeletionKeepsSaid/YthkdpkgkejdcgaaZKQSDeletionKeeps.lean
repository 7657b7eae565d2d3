/- Part of a claim: see its row. Conditions: stated at each. -/
import Derived.Test.YthkdpkgkejdcgaaZKQX
import Derived.Test.YthkdpkgkejdcgaaZKQ17
namespace Go.Proofs.Ythkdpkgkejdcgaa.Q
open Go.RowKit Go.Proofs.Ythkdpkgkejdcgaa.Opn
def orchestratorlaw21_DeletionKeeps.Pure : Prop := ∀ (x0 : S33) (x1 : ByteArray) (x2 : S45) (x3 : S45), X33 x0 → SzOk x1 → X45 x2 → X45 x3 → ∃ k, orchestratorlaw21_DeletionKeeps.f k x0.f0.f0 x0.f0.f1 x0.f0.f2 x0.f0.f3 x0.f0.f4 x0.f0.f5 x0.f0.f6 x0.f0.f7 x0.f0.f8 x0.f0.f9 x0.f0.f10 x0.f0.f11 x0.f0.f12 x0.f1.f0 x0.f1.f1 x0.f1.f2 x0.f1.f3 x0.f1.f4 x0.f2.f0 x0.f2.f1 x0.f2.f2 x0.f2.f3 x0.f2.f4 x1 x2.f0 x2.f1 x2.f2 x2.f3 x3.f0 x3.f1 x3.f2 x3.f3 = some true
end Go.Proofs.Ythkdpkgkejdcgaa.Q
