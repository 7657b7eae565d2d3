/- Part of a claim: see its row. Conditions: stated at each. -/
import Derived.Test.YtkdikhonafbgdaaZMQ0
namespace Go.Proofs.Ytkdikhonafbgdaa.Q
open Go.RowKit Go.Proofs.YtkdikhonafbgdaaW.PrintWords Go.Proofs.YtkdikhonafbgdaaW.PrintLast Go.Proofs.YtkdikhonafbgdaaW.PrintMore Go.Proofs.Ytkdikhonafbgdaa.Sh
attribute [local go_sem] max2_int min2_int max_two min_two max_three min_three max_four min_four
set_option linter.unusedVariables false
set_option linter.unusedSimpArgs false
theorem eqA48 (d : Nat) (w : World) (x0 y0 : Int) (x1 y1 : Int) :
  (Op.equalIn (d + 2) 48 (.agg #[.int .i64 x0, .int .i64 x1]) (.agg #[.int .i64 y0, .int .i64 y1])).run Try.prog w = .ok (x0 == y0 && (x1 == y1)) w := by
 refine eqi_of Try.underlying48 (by kernel_rfl) (sz := 1) (by kernel_rfl) ?_
 show (Op.eqItems _ 3 1 _ _ [0, 1]).run _ _ = _
 exact (eqi_cons (by go_simp; rfl) (by go_simp; rfl) (by go_simp) (eqi_last (by go_simp; rfl) (by go_simp; rfl) (by go_simp)))
end Go.Proofs.Ytkdikhonafbgdaa.Q
