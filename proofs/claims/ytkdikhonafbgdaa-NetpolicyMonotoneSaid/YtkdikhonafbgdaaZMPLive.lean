/- Part of a claim: see its row. Conditions: stated at each. -/
import Derived.Test.YtkdikhonafbgdaaZMQ9
import Derived.Test.YtkdikhonafbgdaaZMPNet
namespace Go.Proofs.Ytkdikhonafbgdaa.Pure
open Go.RowKit Go.Proofs.Ytkdikhonafbgdaa.Q Go.Proofs.Ytkdikhonafbgdaa.Opn Go.Proofs.YtkdikhonafbgdaaW.PrintWords Go.Proofs.YtkdikhonafbgdaaW.PrintLast Go.Proofs.YtkdikhonafbgdaaW.PrintMore Go.Proofs.Ytkdikhonafbgdaa.Pur
set_option linter.unusedVariables false
set_option linter.unusedSimpArgs false
theorem lives_ev : Ev (fun k => orchestratorlaw57_lives.f k) true := Ev.of (fun k => orchestratorlaw57_lives.mono k) (k := 20) (by decide +kernel)
end Go.Proofs.Ytkdikhonafbgdaa.Pure
