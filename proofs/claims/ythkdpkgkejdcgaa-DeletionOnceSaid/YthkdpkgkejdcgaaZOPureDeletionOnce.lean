/- Part of a claim: see its row. Conditions: stated at each. -/
import Derived.Test.YthkdpkgkejdcgaaZOQSDeletionOnce
import Derived.Test.YthkdpkgkejdcgaaZOPFin
namespace Go.Proofs.Ythkdpkgkejdcgaa.Pure
open Go.RowKit Go.Proofs.Ythkdpkgkejdcgaa.Q Go.Proofs.Ythkdpkgkejdcgaa.Opn Go.Proofs.YthkdpkgkejdcgaaW.PrintWords Go.Proofs.YthkdpkgkejdcgaaW.PrintLast Go.Proofs.YthkdpkgkejdcgaaW.PrintMore Go.Proofs.Ythkdpkgkejdcgaa.Pur
set_option linter.unusedVariables false
set_option linter.unusedSimpArgs false
theorem rd45 {l : List S45} {j : Nat} (h : j < l.length) : rd_T45 l (j : Int) = l[j] := getD_nat h
theorem once_loop (l : List S45) (now : Int) (hn : l.length ≤ 60) : ∀ (d j : Nat) (o : S33), j + d = l.length → X33 o → Ev (fun k => orchestratorlaw21_DeletionOnce.l0 k l now (j : Int) o.f0.f0 o.f0.f1 o.f0.f2 o.f0.f3 o.f0.f4 o.f0.f5 o.f0.f6 o.f0.f7 o.f0.f8 o.f0.f9 o.f0.f10 o.f0.f11 o.f0.f12 o.f1.f0 o.f1.f1 o.f1.f2 o.f1.f3 o.f1.f4 o.f2.f0 o.f2.f1 o.f2.f2 o.f2.f3 o.f2.f4) true := by
  intro d
  induction d with
  | zero =>
    intro j o hj ho
    have : j = l.length := by omega
    subst this
    refine Ev.step (fun k => rfl) ?_
    simp only [orchestratorlaw21_DeletionOnce.l0, Int.lt_irrefl, if_false]
    refine Ev.bind lives_ev ?_
    simp only [if_true, due_some, Option.bind_some]
    by_cases h : o.f0.f7 = true
    · by_cases h2 : (o.f0.f11.length : Int) = 0
      · simp only [if_pos h, if_pos h2]
        rw [if_pos (show (dueB o now == decide (now ≥ o.f0.f8)) = true by unfold dueB; rw [h, decide_eq_true h2, Bool.true_and, Bool.true_and]; exact BEq.rfl)]
        exact Ev.now _
      · simp only [if_pos h, if_neg h2]
        rw [if_pos (show (dueB o now == false) = true by unfold dueB; rw [h, decide_eq_false h2]; rfl)]
        exact Ev.now _
    · simp only [if_neg h]
      rw [if_pos (show (dueB o now == false) = true by unfold dueB; rw [Bool.eq_false_iff.2 h]; rfl)]
      exact Ev.now _
  | succ d ih =>
    intro j o hj ho
    have hlt : j < l.length := by omega
    have h1 : (j : Int) < (l.length : Int) := by omega
    have hw := wrap_succ hlt (show l.length ≤ 4611686018427387904 by omega)
    refine Ev.step (fun k => rfl) ?_
    simp only [orchestratorlaw21_DeletionOnce.l0, if_pos h1, if_pos (show (0 : Int) ≤ (j : Int) by omega), rd45 hlt]
    refine Ev.ite (fun hf => ?_) (fun hf => ?_)
    · refine Ev.bind (begin_ev o ho _ _ _) ?_
      simp only [RT]
      refine Ev.step (fun k => rfl) ?_
      simp only [orchestratorlaw21_DeletionOnce.j1]
      refine Ev.ite (fun he => ?_) (fun he => ?_)
      · obtain ⟨add, name, e, hfit⟩ := begin_fits o ho _ _ _ he
        have h7 : (beginB o l[j].f1 l[j].f2 l[j].f3).1.f0.f7 = true := by rw [e]; rfl
        have h8 : (beginB o l[j].f1 l[j].f2 l[j].f3).1.f0.f8 = delAt o (endB l[j].f1 l[j].f2) := by rw [e]; rfl
        have hnext := ih (j + 1) _ (by omega) hfit
        simp only [if_pos h7, if_pos hf, hw]
        refine Ev.ite (fun h => ?_) (fun h => ?_)
        · have hle : ¬ (beginB o l[j].f1 l[j].f2 l[j].f3).1.f0.f8 > o.f0.f8 := by
            rw [h8]; unfold delAt; rw [if_pos h]
            by_cases h2 : endB l[j].f1 l[j].f2 < o.f0.f8
            · rw [if_pos h2]; omega
            · rw [if_neg h2]; omega
          simp only [if_neg hle]
          exact hnext
        · exact hnext
      · simp only [hw]
        exact ih (j + 1) o (by omega) ho
    · refine Ev.bind (finish_ev o ho _) ?_
      simp only [RT]
      refine Ev.step (fun k => rfl) ?_
      simp only [orchestratorlaw21_DeletionOnce.j1]
      refine Ev.ite (fun he => ?_) (fun he => ?_)
      · obtain ⟨e, hfit⟩ := finish_fits o ho _ he
        have h7 : (finishB o l[j].f0).1.f0.f7 = o.f0.f7 := by rw [e]; rfl
        have h8 : (finishB o l[j].f0).1.f0.f8 = o.f0.f8 := by rw [e]; rfl
        have hnext := ih (j + 1) _ (by omega) hfit
        simp only [if_neg hf, hw]
        refine Ev.ite (fun h => ?_) (fun h => ?_)
        · exact Ev.pos (by rw [h7]; exact h) (Ev.neg (by rw [h8]; omega) hnext)
        · exact hnext
      · simp only [hw]
        exact ih (j + 1) o (by omega) ho
theorem DeletionOnce : orchestratorlaw21_DeletionOnce.Pure := by
  intro o l now ho hl hnow
  refine Ev.rounds (g := fun k => orchestratorlaw21_DeletionOnce.f k o.f0.f0 o.f0.f1 o.f0.f2 o.f0.f3 o.f0.f4 o.f0.f5 o.f0.f6 o.f0.f7 o.f0.f8 o.f0.f9 o.f0.f10 o.f0.f11 o.f0.f12 o.f1.f0 o.f1.f1 o.f1.f2 o.f1.f3 o.f1.f4 o.f2.f0 o.f2.f1 o.f2.f2 o.f2.f3 o.f2.f4 l now) ?_
  unfold orchestratorlaw21_DeletionOnce.f
  refine Ev.ite (fun h => ?_) (fun h => ?_)
  · refine Ev.bind lives_ev ?_
    simp only [if_true]
    exact Ev.now _
  · exact once_loop l now (by omega) l.length 0 o (by omega) ho
end Go.Proofs.Ythkdpkgkejdcgaa.Pure
