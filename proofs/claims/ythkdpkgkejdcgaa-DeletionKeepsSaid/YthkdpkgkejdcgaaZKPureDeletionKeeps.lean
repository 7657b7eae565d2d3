/- Part of a claim: see its row. Conditions: stated at each. -/
import Derived.Test.YthkdpkgkejdcgaaZKQSDeletionKeeps
import Derived.Test.YthkdpkgkejdcgaaZKPSame
import Derived.Test.YthkdpkgkejdcgaaZKPFin
namespace Go.Proofs.Ythkdpkgkejdcgaa.Pure
open Go.RowKit Go.Proofs.Ythkdpkgkejdcgaa.Q Go.Proofs.Ythkdpkgkejdcgaa.Opn Go.Proofs.YthkdpkgkejdcgaaW.PrintWords Go.Proofs.YthkdpkgkejdcgaaW.PrintLast Go.Proofs.YthkdpkgkejdcgaaW.PrintMore Go.Proofs.Ythkdpkgkejdcgaa.Pur
set_option linter.unusedVariables false
set_option linter.unusedSimpArgs false
theorem plain0 (o : S33) (now grace : Int) : beginB o now grace 0 = (begS false ⟨#[]⟩ o now grace, 0) := by
  unfold beginB begO begA
  rw [if_pos rfl]
  have h : addB ⟨#[]⟩ o = false := by unfold addB; rw [decide_eq_true (show (⟨#[]⟩ : ByteArray).toList = [] from by decide +kernel)]; rfl
  rw [h, if_neg (by simp)]
theorem plain_fits (o : S33) (ho : X33 o) (now grace : Int) : X33 (begS false ⟨#[]⟩ o now grace) := begS_fits o ho false ⟨#[]⟩ (by unfold SzOk; decide) now grace (fun h => by cases h)
theorem plain_ev (o : S33) (ho : X33 o) (now grace : Int) : Ev (fun k => deletion_Begin.f k o.f0.f0 o.f0.f1 o.f0.f2 o.f0.f3 o.f0.f4 o.f0.f5 o.f0.f6 o.f0.f7 o.f0.f8 o.f0.f9 o.f0.f10 o.f0.f11 o.f0.f12 o.f1.f0 o.f1.f1 o.f1.f2 o.f1.f3 o.f1.f4 o.f2.f0 o.f2.f1 o.f2.f2 o.f2.f3 o.f2.f4 now grace 0) (RT (begS false ⟨#[]⟩ o now grace, 0)) := Ev.eq (begin_ev o ho now grace 0) (by rw [plain0])
theorem delAt_two (o : S33) (a b c d : Int) : begS false ⟨#[]⟩ (begS false ⟨#[]⟩ o a b) c d = begS false ⟨#[]⟩ (begS false ⟨#[]⟩ o c d) a b := by
  have h : delAt (begS false ⟨#[]⟩ o a b) (endB c d) = delAt (begS false ⟨#[]⟩ o c d) (endB a b) := by
    show (if true = true then (if endB c d < delAt o (endB a b) then endB c d else delAt o (endB a b)) else endB c d) = (if true = true then (if endB a b < delAt o (endB c d) then endB a b else delAt o (endB c d)) else endB a b)
    rw [if_pos rfl, if_pos rfl]
    unfold delAt
    by_cases h : o.f0.f7 = true
    · simp only [if_pos h]
      generalize endB a b = x
      generalize endB c d = y
      repeat' split
      all_goals omega
    · simp only [if_neg h]
      generalize endB a b = x
      generalize endB c d = y
      repeat' split
      all_goals omega
  unfold begS
  simp only [Bool.false_eq_true, if_false]
  exact congrArg (fun z => (⟨⟨o.f0.f0, o.f0.f1, o.f0.f2, o.f0.f3, o.f0.f4, o.f0.f5, o.f0.f6, true, z, o.f0.f9, o.f0.f10, o.f0.f11, o.f0.f12⟩, o.f1, o.f2⟩ : S33)) h
theorem keeps1 (o : S33) (ho : X33 o) (a b : S45) : Ev (fun k => orchestratorlaw21_DeletionKeeps.j1 k o.f0.f0 o.f0.f1 o.f0.f2 o.f0.f3 o.f0.f4 o.f0.f5 o.f0.f6 o.f0.f7 o.f0.f8 o.f0.f9 o.f0.f10 o.f0.f11 o.f0.f12 o.f1.f0 o.f1.f1 o.f1.f2 o.f1.f3 o.f1.f4 o.f2.f0 o.f2.f1 o.f2.f2 o.f2.f3 o.f2.f4 a.f0 a.f1 a.f2 a.f3 b.f0 b.f1 b.f2 b.f3) true := by
  refine Ev.step (fun k => rfl) ?_
  simp only [orchestratorlaw21_DeletionKeeps.j1]
  refine Ev.bind (plain_ev o ho a.f1 a.f2) (Ev.bind (plain_ev o ho b.f1 b.f2) ?_)
  simp only [RT]
  refine Ev.bind (plain_ev _ (plain_fits o ho a.f1 a.f2) b.f1 b.f2) (Ev.bind (plain_ev _ (plain_fits o ho b.f1 b.f2) a.f1 a.f2) (Ev.bind lives_ev ?_))
  simp only [RT, if_true]
  rw [delAt_two o b.f1 b.f2 a.f1 a.f2]
  refine Ev.bind (same_ev _ (plain_fits _ (plain_fits o ho a.f1 a.f2) b.f1 b.f2)) ?_
  simp only [if_true]
  exact Ev.now _
theorem keeps0 (o : S33) (ho : X33 o) (s : ByteArray) (a b : S45) : Ev (fun k => orchestratorlaw21_DeletionKeeps.j0 k s o.f0.f0 o.f0.f1 o.f0.f2 o.f0.f3 o.f0.f4 o.f0.f5 o.f0.f6 o.f0.f7 o.f0.f8 o.f0.f9 o.f0.f10 o.f0.f11 o.f0.f12 o.f1.f0 o.f1.f1 o.f1.f2 o.f1.f3 o.f1.f4 o.f2.f0 o.f2.f1 o.f2.f2 o.f2.f3 o.f2.f4 a.f0 a.f1 a.f2 a.f3 b.f0 b.f1 b.f2 b.f3) true := by
  refine Ev.step (fun k => rfl) ?_
  simp only [orchestratorlaw21_DeletionKeeps.j0]
  refine Ev.bind (finish_ev o ho s) ?_
  simp only [RT]
  refine Ev.ite (fun he => ?_) (fun he => keeps1 o ho a b)
  have e := (finish_fits o ho s he).1
  simp only [e, finS]
  refine Ev.bind (same_ev o ho) ?_
  simp only [if_true]
  exact keeps1 o ho a b
theorem DeletionKeeps : orchestratorlaw21_DeletionKeeps.Pure := by
  intro o s a b ho hs ha hb
  refine Ev.rounds (g := fun k => orchestratorlaw21_DeletionKeeps.f k o.f0.f0 o.f0.f1 o.f0.f2 o.f0.f3 o.f0.f4 o.f0.f5 o.f0.f6 o.f0.f7 o.f0.f8 o.f0.f9 o.f0.f10 o.f0.f11 o.f0.f12 o.f1.f0 o.f1.f1 o.f1.f2 o.f1.f3 o.f1.f4 o.f2.f0 o.f2.f1 o.f2.f2 o.f2.f3 o.f2.f4 s a.f0 a.f1 a.f2 a.f3 b.f0 b.f1 b.f2 b.f3) ?_
  unfold orchestratorlaw21_DeletionKeeps.f
  refine Ev.bind (begin_ev o ho a.f1 a.f2 a.f3) ?_
  simp only [RT]
  refine Ev.ite (fun he => ?_) (fun he => keeps0 o ho s a b)
  obtain ⟨add, name, e, hfit⟩ := begin_fits o ho a.f1 a.f2 a.f3 he
  simp only [e, begS]
  refine Ev.bind (same_ev o ho) ?_
  simp only [if_true]
  exact keeps0 o ho s a b
end Go.Proofs.Ythkdpkgkejdcgaa.Pure
