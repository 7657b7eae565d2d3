/- Part of a claim: see its row. Conditions: stated at each. -/
import Derived.Test.YthkdpkgkejdcgaaZFQSDeletionFinishes
import Derived.Test.YthkdpkgkejdcgaaZFPSame
import Derived.Test.YthkdpkgkejdcgaaZFPRefFin
namespace Go.Proofs.Ythkdpkgkejdcgaa.Pure
open Go.RowKit Go.Proofs.Ythkdpkgkejdcgaa.Q Go.Proofs.Ythkdpkgkejdcgaa.Opn Go.Proofs.YthkdpkgkejdcgaaW.PrintWords Go.Proofs.YthkdpkgkejdcgaaW.PrintLast Go.Proofs.YthkdpkgkejdcgaaW.PrintMore Go.Proofs.Ythkdpkgkejdcgaa.Pur
set_option linter.unusedVariables false
set_option linter.unusedSimpArgs false
theorem DeletionFinishes : orchestratorlaw21_DeletionFinishes.Pure := by
  intro o s now ho hs hnow
  refine Ev.rounds (g := fun k => orchestratorlaw21_DeletionFinishes.f k o.f0.f0 o.f0.f1 o.f0.f2 o.f0.f3 o.f0.f4 o.f0.f5 o.f0.f6 o.f0.f7 o.f0.f8 o.f0.f9 o.f0.f10 o.f0.f11 o.f0.f12 o.f1.f0 o.f1.f1 o.f1.f2 o.f1.f3 o.f1.f4 o.f2.f0 o.f2.f1 o.f2.f2 o.f2.f3 o.f2.f4 s now) ?_
  unfold orchestratorlaw21_DeletionFinishes.f
  refine Ev.bind (finish_ev o ho s) (Ev.bind (rfinish_ev o ho s) (Ev.bind lives_ev ?_))
  simp only [if_true, RT]
  refine Ev.bind (same_ev _ (finish_fits' o ho s)) ?_
  simp only [if_true, due_some, rdue_some, Option.bind_some, beq_self_eq_true]
  exact Ev.now _
end Go.Proofs.Ythkdpkgkejdcgaa.Pure
