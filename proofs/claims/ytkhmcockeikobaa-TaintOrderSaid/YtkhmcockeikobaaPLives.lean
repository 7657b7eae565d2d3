/- The fixed examples of layer 35 hold: the printed check comes to true. Conditions: none. -/
import Derived.Test.YtkhmcockeikobaaQ3
import Derived.Test.YtkhmcockeikobaaPur
namespace Go.Proofs.Ytkhmcockeikobaa.Pure
open Go.RowKit Go.Proofs.Ytkhmcockeikobaa.Q Go.Proofs.YtkhmcockeikobaaW.PrintWords Go.Proofs.YtkhmcockeikobaaW.PrintLast Go.Proofs.YtkhmcockeikobaaW.PrintMore Go.Proofs.Ytkhmcockeikobaa.Pur
theorem lives_ev : Ev (fun k => orchestratorlaw35_lives.f k) true := Ev.of (fun k => orchestratorlaw35_lives.mono k) (k := 12) (by decide +kernel)
end Go.Proofs.Ytkhmcockeikobaa.Pure
