/- Part of a claim: see its row. Conditions: stated at each. -/
import Derived.Test.YtkdikhonafbgdaaZAQ9
import Derived.Test.YtkdikhonafbgdaaZAPNet
namespace Go.Proofs.Ytkdikhonafbgdaa.Pure
open Go.RowKit Go.Proofs.Ytkdikhonafbgdaa.Q Go.Proofs.Ytkdikhonafbgdaa.Opn Go.Proofs.YtkdikhonafbgdaaW.PrintWords Go.Proofs.YtkdikhonafbgdaaW.PrintLast Go.Proofs.YtkdikhonafbgdaaW.PrintMore Go.Proofs.Ytkdikhonafbgdaa.Pur
set_option linter.unusedVariables false
set_option linter.unusedSimpArgs false
theorem lives_ev : Ev (fun k => orchestratorlaw57_lives.f k) true := Ev.of (fun k => orchestratorlaw57_lives.mono k) (k := 20) (by decide +kernel)
theorem small_ex (l : List S54) (hl : XL 248 X54 l) : ∃ b, Ev (fun k => orchestratorlaw57_small.f k l) b := by
  unfold orchestratorlaw57_small.f
  have hn := len_of hl (by decide)
  have key : ∀ (d j : Nat), j + d = l.length → ∃ b, Ev (fun k => orchestratorlaw57_small.l0 k l (j : Int)) b := by
    intro d
    induction d with
    | zero =>
      intro j hj
      have : j = l.length := by omega
      subst this
      refine ⟨decide ((l.length : Int) ≤ 10), Ev.step (fun k => rfl) ?_⟩
      simp only [orchestratorlaw57_small.l0, Int.lt_irrefl, if_false]
      refine Ev.step (fun k => rfl) ?_
      simp only [orchestratorlaw57_small.j1, Bool.false_eq_true, if_false]
      exact Ev.now _
    | succ d ih =>
      intro j hj
      have hlt : j < l.length := by omega
      have h1 : (j : Int) < (l.length : Int) := by omega
      obtain ⟨b, hb⟩ := ih (j + 1) (by omega)
      by_cases h11 : (j : Int) < 11
      · by_cases hr : ((rd_T54 l (j : Int)).f4.length : Int) > 10
        · refine ⟨false, Ev.step (fun k => rfl) ?_⟩
          simp only [orchestratorlaw57_small.l0, if_pos h1]
          refine Ev.step (fun k => rfl) ?_
          simp only [orchestratorlaw57_small.j1, decide_eq_true h11, if_true, if_pos h1, if_pos (show (0 : Int) ≤ (j : Int) by omega), if_pos hr]
          exact Ev.now _
        · refine ⟨b, Ev.step (fun k => rfl) ?_⟩
          simp only [orchestratorlaw57_small.l0, if_pos h1]
          refine Ev.step (fun k => rfl) ?_
          simp only [orchestratorlaw57_small.j1, decide_eq_true h11, if_true, if_pos h1, if_pos (show (0 : Int) ≤ (j : Int) by omega), if_neg hr, wrap_succ hlt (show l.length ≤ 4611686018427387904 by omega)]
          exact hb
      · refine ⟨decide ((l.length : Int) ≤ 10), Ev.step (fun k => rfl) ?_⟩
        simp only [orchestratorlaw57_small.l0, if_pos h1]
        refine Ev.step (fun k => rfl) ?_
        simp only [orchestratorlaw57_small.j1, decide_eq_false h11, Bool.false_eq_true, if_false]
        exact Ev.now _
  exact key l.length 0 (by omega)
end Go.Proofs.Ytkdikhonafbgdaa.Pure
