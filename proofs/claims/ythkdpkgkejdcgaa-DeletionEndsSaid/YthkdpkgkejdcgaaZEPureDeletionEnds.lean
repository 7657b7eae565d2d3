/- Part of a claim: see its row. Conditions: stated at each. -/
import Derived.Test.YthkdpkgkejdcgaaZEQSDeletionEnds
import Derived.Test.YthkdpkgkejdcgaaZEPFin
namespace Go.Proofs.Ythkdpkgkejdcgaa.Pure
open Go.RowKit Go.Proofs.Ythkdpkgkejdcgaa.Q Go.Proofs.Ythkdpkgkejdcgaa.Opn Go.Proofs.YthkdpkgkejdcgaaW.PrintWords Go.Proofs.YthkdpkgkejdcgaaW.PrintLast Go.Proofs.YthkdpkgkejdcgaaW.PrintMore Go.Proofs.Ythkdpkgkejdcgaa.Pur
set_option linter.unusedVariables false
set_option linter.unusedSimpArgs false
theorem keep_lt {s : ByteArray} {l : List ByteArray} (h : s ∈ l) : (keepB s l).length < l.length := by
  unfold keepB
  exact List.length_filter_lt_length_iff_exists.2 ⟨s, h, by simp⟩
theorem ends_last (now grace : Int) (i : Int) (x : S33) (h7 : x.f0.f7 = true) (h8 : x.f0.f8 = now + grace) (hb : 1 ≤ now + grace ∧ now + grace ≤ 1000000000000) (hl : x.f0.f11.length = 0) : Ev (fun k => orchestratorlaw21_DeletionEnds.j2 k now grace i false x.f0.f0 x.f0.f1 x.f0.f2 x.f0.f3 x.f0.f4 x.f0.f5 x.f0.f6 x.f0.f7 x.f0.f8 x.f0.f9 x.f0.f10 x.f0.f11 x.f0.f12 x.f1.f0 x.f1.f1 x.f1.f2 x.f1.f3 x.f1.f4 x.f2.f0 x.f2.f1 x.f2.f2 x.f2.f3 x.f2.f4) true := by
  have hw : wrap64 (now + grace) = now + grace := wrap_id (by omega) (by omega)
  have hw2 : wrap64 (now + grace - 1) = now + grace - 1 := wrap_id (by omega) (by omega)
  have d1 : dueB x (now + grace) = true := by unfold dueB; rw [h7, decide_eq_true (show (x.f0.f11.length : Int) = 0 by omega), decide_eq_true (show now + grace ≥ x.f0.f8 by omega)]; rfl
  have d2 : dueB x (now + grace - 1) = false := by unfold dueB; rw [h7, decide_eq_true (show (x.f0.f11.length : Int) = 0 by omega), decide_eq_false (show ¬ now + grace - 1 ≥ x.f0.f8 by omega)]; rfl
  refine Ev.step (fun k => rfl) ?_
  simp only [orchestratorlaw21_DeletionEnds.j2, Bool.false_eq_true, if_false]
  refine Ev.bind lives_ev ?_
  simp only [if_true, hw, hw2, due_some, Option.bind_some, d1, d2, Bool.false_eq_true, if_false, if_pos h8]
  exact Ev.now _
theorem ends_loop (now grace : Int) (hb : 1 ≤ now + grace ∧ now + grace ≤ 1000000000000) : ∀ (d i : Nat) (x : S33), i + d = 41 → X33 x → x.f0.f7 = true → x.f0.f8 = now + grace → x.f0.f11.length ≤ d → Ev (fun k => orchestratorlaw21_DeletionEnds.l0 k now grace (i : Int) x.f0.f0 x.f0.f1 x.f0.f2 x.f0.f3 x.f0.f4 x.f0.f5 x.f0.f6 x.f0.f7 x.f0.f8 x.f0.f9 x.f0.f10 x.f0.f11 x.f0.f12 x.f1.f0 x.f1.f1 x.f1.f2 x.f1.f3 x.f1.f4 x.f2.f0 x.f2.f1 x.f2.f2 x.f2.f3 x.f2.f4) true := by
  intro d
  induction d with
  | zero =>
    intro i x hi hx h7 h8 hl
    refine Ev.step (fun k => rfl) ?_
    simp only [orchestratorlaw21_DeletionEnds.l0, if_neg (show ¬ (i : Int) < 41 by omega)]
    exact ends_last now grace _ x h7 h8 hb (by omega)
  | succ d ih =>
    intro i x hi hx h7 h8 hl
    refine Ev.step (fun k => rfl) ?_
    simp only [orchestratorlaw21_DeletionEnds.l0, if_pos (show (i : Int) < 41 by omega)]
    by_cases h0 : x.f0.f11.length = 0
    · rw [decide_eq_false (show ¬ (x.f0.f11.length : Int) > 0 by omega)]
      exact ends_last now grace _ x h7 h8 hb h0
    · have hp : 0 < x.f0.f11.length := by omega
      have e0 : rdOf ByteArray.empty x.f0.f11 0 = x.f0.f11[0] := rdS (j := 0) hp
      have hm : x.f0.f11[0] ∈ x.f0.f11 := List.getElem_mem hp
      have hh : hasS x.f0.f11 x.f0.f11[0] = true := List.any_eq_true.2 ⟨_, hm, decide_eq_true rfl⟩
      have hf : finishB x x.f0.f11[0] = (finS x.f0.f11[0] x, 0) := by unfold finishB; rw [if_pos hh]
      have hk := keep_lt hm
      have d1 : dueB x 1000000000000 = false := by unfold dueB; rw [h7, decide_eq_false (show ¬ (x.f0.f11.length : Int) = 0 by omega)]; rfl
      have hr := finish_ev x hx x.f0.f11[0]
      rw [hf] at hr
      have hn := ih (i + 1) (finS x.f0.f11[0] x) (by omega) (finS_fits x hx _) h7 h8 (by show (keepB x.f0.f11[0] x.f0.f11).length ≤ d; omega)
      rw [decide_eq_true (show (x.f0.f11.length : Int) > 0 by omega)]
      refine Ev.step (fun k => rfl) ?_
      simp only [orchestratorlaw21_DeletionEnds.j2, if_true, due_some, Option.bind_some, d1, Bool.false_eq_true, if_false, if_pos (show 0 < (x.f0.f11.length : Int) by omega), e0, wrap_succ (show i < 41 by omega) (show 41 ≤ 4611686018427387904 by decide)]
      refine Ev.bind hr ?_
      simp only [RT, if_true]
      exact Ev.neg (by show ¬ ((keepB x.f0.f11[0] x.f0.f11).length : Int) ≥ (x.f0.f11.length : Int); omega) hn
theorem DeletionEnds : orchestratorlaw21_DeletionEnds.Pure := by
  intro o now grace p ho hnow hgrace hp
  refine Ev.rounds (g := fun k => orchestratorlaw21_DeletionEnds.f k o.f0.f0 o.f0.f1 o.f0.f2 o.f0.f3 o.f0.f4 o.f0.f5 o.f0.f6 o.f0.f7 o.f0.f8 o.f0.f9 o.f0.f10 o.f0.f11 o.f0.f12 o.f1.f0 o.f1.f1 o.f1.f2 o.f1.f3 o.f1.f4 o.f2.f0 o.f2.f1 o.f2.f2 o.f2.f3 o.f2.f4 now grace p) ?_
  have hj : Ev (fun k => orchestratorlaw21_DeletionEnds.j0 k now grace p true o.f0.f0 o.f0.f1 o.f0.f2 o.f0.f3 o.f0.f4 o.f0.f5 o.f0.f6 o.f0.f7 o.f0.f8 o.f0.f9 o.f0.f10 o.f0.f11 o.f0.f12 o.f1.f0 o.f1.f1 o.f1.f2 o.f1.f3 o.f1.f4 o.f2.f0 o.f2.f1 o.f2.f2 o.f2.f3 o.f2.f4) true := by
    refine Ev.step (fun k => rfl) ?_
    simp only [orchestratorlaw21_DeletionEnds.j0, if_true]
    refine Ev.bind lives_ev ?_
    simp only [if_true]
    exact Ev.now _
  unfold orchestratorlaw21_DeletionEnds.f
  refine Ev.ite (fun _ => hj) (fun h1 => Ev.ite (fun _ => hj) (fun h2 => Ev.ite (fun _ => hj) (fun h3 => Ev.ite (fun _ => hj) (fun h4 => Ev.ite (fun _ => hj) (fun h5 => ?_)))))
  rw [wrap_id (show -9223372036854775808 ≤ 1000000000000 - now by omega) (show 1000000000000 - now ≤ 9223372036854775807 by omega)] at h5
  by_cases h7 : o.f0.f7 = true
  · rw [h7] at hj ⊢
    exact hj
  · rw [Bool.eq_false_iff.2 h7]
    have hf7 := Bool.eq_false_iff.2 h7
    have hb := begin_ev o ho now grace p
    rw [hf7] at hb
    refine Ev.step (fun k => rfl) ?_
    simp only [orchestratorlaw21_DeletionEnds.j0, Bool.false_eq_true, if_false]
    refine Ev.bind hb ?_
    simp only [RT]
    refine Ev.ite (fun he => ?_) (fun he => ?_)
    · obtain ⟨add, name, e, hfit⟩ := begin_fits o ho now grace p he
      have e8 : endB now grace = now + grace := by unfold endB clB; simp only [mn_eq, mx_eq]; omega
      refine ends_loop now grace (by omega) 41 0 _ rfl hfit (by rw [e]; rfl) ?_ ?_
      · rw [e]
        show delAt o (endB now grace) = now + grace
        unfold delAt
        rw [if_neg h7, e8]
      · rw [e]
        show (if add = true then o.f0.f11 ++ [name] else o.f0.f11).length ≤ 41
        by_cases ha : add = true
        · rw [if_pos ha, List.length_append, List.length_singleton]; omega
        · rw [if_neg ha]; omega
    · refine Ev.bind lives_ev ?_
      simp only [if_true]
      exact Ev.now _
end Go.Proofs.Ythkdpkgkejdcgaa.Pure
