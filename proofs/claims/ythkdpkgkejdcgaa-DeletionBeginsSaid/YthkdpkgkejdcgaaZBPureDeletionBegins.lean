/- Part of a claim: see its row. Conditions: stated at each. -/
import Derived.Test.YthkdpkgkejdcgaaZBQSDeletionBegins
import Derived.Test.YthkdpkgkejdcgaaZBPSame
import Derived.Test.YthkdpkgkejdcgaaZBPRef
namespace Go.Proofs.Ythkdpkgkejdcgaa.Pure
open Go.RowKit Go.Proofs.Ythkdpkgkejdcgaa.Q Go.Proofs.Ythkdpkgkejdcgaa.Opn Go.Proofs.YthkdpkgkejdcgaaW.PrintWords Go.Proofs.YthkdpkgkejdcgaaW.PrintLast Go.Proofs.YthkdpkgkejdcgaaW.PrintMore Go.Proofs.Ythkdpkgkejdcgaa.Pur
set_option linter.unusedVariables false
set_option linter.unusedSimpArgs false
theorem DeletionBegins : orchestratorlaw21_DeletionBegins.Pure := by
  intro o now grace p ho hnow hgrace hp
  refine Ev.rounds (g := fun k => orchestratorlaw21_DeletionBegins.f k o.f0.f0 o.f0.f1 o.f0.f2 o.f0.f3 o.f0.f4 o.f0.f5 o.f0.f6 o.f0.f7 o.f0.f8 o.f0.f9 o.f0.f10 o.f0.f11 o.f0.f12 o.f1.f0 o.f1.f1 o.f1.f2 o.f1.f3 o.f1.f4 o.f2.f0 o.f2.f1 o.f2.f2 o.f2.f3 o.f2.f4 now grace p) ?_
  unfold orchestratorlaw21_DeletionBegins.f
  refine Ev.bind (begin_ev o ho now grace p) (Ev.bind (rbegin_ev o ho now grace p) (Ev.bind lives_ev ?_))
  simp only [if_true, RT]
  refine Ev.bind (same_ev _ (begin_fits' o ho now grace p)) ?_
  simp only [if_true]
  exact Ev.now _
end Go.Proofs.Ythkdpkgkejdcgaa.Pure
