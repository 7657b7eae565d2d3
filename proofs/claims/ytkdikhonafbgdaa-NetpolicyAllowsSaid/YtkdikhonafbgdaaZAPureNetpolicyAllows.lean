/- Part of a claim: see its row. Conditions: stated at each. -/
import Derived.Test.YtkdikhonafbgdaaZAQSNetpolicyAllows
import Derived.Test.YtkdikhonafbgdaaZAPRef
import Derived.Test.YtkdikhonafbgdaaZAPLive
namespace Go.Proofs.Ytkdikhonafbgdaa.Pure
open Go.RowKit Go.Proofs.Ytkdikhonafbgdaa.Q Go.Proofs.Ytkdikhonafbgdaa.Opn Go.Proofs.YtkdikhonafbgdaaW.PrintWords Go.Proofs.YtkdikhonafbgdaaW.PrintLast Go.Proofs.YtkdikhonafbgdaaW.PrintMore Go.Proofs.Ytkdikhonafbgdaa.Pur
set_option linter.unusedVariables false
set_option linter.unusedSimpArgs false
theorem NetpolicyAllows : orchestratorlaw57_NetpolicyAllows.Pure := by
  intro l p o n hl hp ho _
  refine Ev.rounds (g := fun k => orchestratorlaw57_NetpolicyAllows.f k l p.f0.f0 p.f0.f1 p.f0.f2 p.f0.f3 p.f0.f4 p.f0.f5 p.f0.f6 p.f0.f7 p.f0.f8 p.f0.f9 p.f0.f10 p.f0.f11 p.f0.f12 p.f1.f0 p.f1.f1 p.f1.f2 p.f1.f3 p.f1.f4 p.f1.f5 p.f1.f6 p.f1.f7 p.f1.f8 p.f1.f9 p.f2.f0 p.f2.f1 p.f2.f2 p.f2.f3 p.f2.f4 p.f2.f5 p.f2.f6 p.f2.f7 p.f2.f8 o.f0.f0 o.f0.f1 o.f0.f2 o.f0.f3 o.f0.f4 o.f0.f5 o.f0.f6 o.f0.f7 o.f0.f8 o.f0.f9 o.f0.f10 o.f0.f11 o.f0.f12 o.f1.f0 o.f1.f1 o.f1.f2 o.f1.f3 o.f1.f4 o.f1.f5 o.f1.f6 o.f1.f7 o.f1.f8 o.f1.f9 o.f2.f0 o.f2.f1 o.f2.f2 o.f2.f3 o.f2.f4 o.f2.f5 o.f2.f6 o.f2.f7 o.f2.f8 n) ?_
  unfold orchestratorlaw57_NetpolicyAllows.f
  obtain ⟨b, hb⟩ := small_ex l hl
  refine Ev.bind hb (Ev.ite (fun h => ?_) (fun h => ?_))
  · refine Ev.bind lives_ev ?_
    simp only [if_true]
    refine Ev.bind (isolated_ev l p true hl hp) (Ev.bind (risolated_ev l p true hl hp) ?_)
    simp only [BEq.rfl, if_true]
    refine Ev.bind (isolated_ev l o false hl ho) (Ev.bind (risolated_ev l o false hl ho) ?_)
    simp only [BEq.rfl, if_true]
    refine Ev.bind (allowed_ev l p o n hl hp ho) (Ev.bind (rallowed_ev l p o n hl hp ho) ?_)
    simp only [BEq.rfl, if_true]
    exact Ev.now _
  · refine Ev.bind lives_ev ?_
    simp only [if_true]
    exact Ev.now _
end Go.Proofs.Ytkdikhonafbgdaa.Pure
