/- Tolerates of the program and of the reference are one function. Conditions: none. -/
import Derived.Test.YtkhmcockeikobaaQ4
import Derived.Test.YtkhmcockeikobaaPur
namespace Go.Proofs.Ytkhmcockeikobaa.Pure
open Go.RowKit Go.Proofs.Ytkhmcockeikobaa.Q Go.Proofs.Ytkhmcockeikobaa.Opn Go.Proofs.YtkhmcockeikobaaW.PrintWords Go.Proofs.YtkhmcockeikobaaW.PrintLast Go.Proofs.YtkhmcockeikobaaW.PrintMore Go.Proofs.Ytkhmcockeikobaa.Pur
/-- Does the toleration y match the taint x? -/
def tolB (y : S23) (x : S25) : Bool := (taint_Tolerates.f y.f0 y.f1 y.f2 y.f3 y.f4 x.f0 x.f1 x.f2 x.f3).getD false
theorem tol_some (y : S23) (x : S25) : taint_Tolerates.f y.f0 y.f1 y.f2 y.f3 y.f4 x.f0 x.f1 x.f2 x.f3 = some (tolB y x) := by
  unfold tolB taint_Tolerates.f
  repeat' (first | rfl | split)
theorem rtol_some (y : S23) (x : S25) : orchestratorref35_Tolerates.f y.f0 y.f1 y.f2 y.f3 y.f4 x.f0 x.f1 x.f2 x.f3 = some (tolB y x) := tol_some y x
end Go.Proofs.Ytkhmcockeikobaa.Pure
