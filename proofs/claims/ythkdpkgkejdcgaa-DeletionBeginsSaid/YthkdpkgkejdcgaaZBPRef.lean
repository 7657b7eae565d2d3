/- Part of a claim: see its row. Conditions: stated at each. -/
import Derived.Test.YthkdpkgkejdcgaaZBQ13
import Derived.Test.YthkdpkgkejdcgaaZBPFin
namespace Go.Proofs.Ythkdpkgkejdcgaa.Pure
open Go.RowKit Go.Proofs.Ythkdpkgkejdcgaa.Q Go.Proofs.Ythkdpkgkejdcgaa.Opn Go.Proofs.YthkdpkgkejdcgaaW.PrintWords Go.Proofs.YthkdpkgkejdcgaaW.PrintLast Go.Proofs.YthkdpkgkejdcgaaW.PrintMore Go.Proofs.Ythkdpkgkejdcgaa.Pur
set_option linter.unusedVariables false
set_option linter.unusedSimpArgs false
theorem has_ev (l : List ByteArray) (s : ByteArray) (hn : l.length ≤ 4611686018427387904) : Ev (fun k => orchestratorref21_has.f k l s) (hasS l s) := by
  have go : ∀ (d j : Nat), j + d = l.length → Ev (fun k => orchestratorref21_has.l0 k l s (j : Int)) (hasS (l.drop j) s) := by
    intro d
    induction d with
    | zero =>
      intro j hj
      have : j = l.length := by omega
      subst this
      refine Ev.step (fun k => rfl) ?_
      simp only [orchestratorref21_has.l0, Int.lt_irrefl, if_false, List.drop_length]
      exact Ev.now _
    | succ d ih =>
      intro j hj
      have hlt : j < l.length := by omega
      have h1 : (j : Int) < (l.length : Int) := by omega
      have hd : hasS (l.drop j) s = (decide (s.toList = l[j].toList) || hasS (l.drop (j + 1)) s) := by
        unfold hasS
        rw [List.drop_eq_getElem_cons hlt, List.any_cons]
      refine Ev.step (fun k => rfl) ?_
      simp only [orchestratorref21_has.l0, if_pos h1, if_pos (show (0 : Int) ≤ (j : Int) by omega), rdS hlt, wrap_succ hlt hn]
      refine Ev.ite (fun h => ?_) (fun h => ?_)
      · exact Ev.eq (Ev.now _) (by rw [hd, decide_eq_true h.symm, Bool.true_or])
      · exact Ev.eq (ih (j + 1) (by omega)) (by rw [hd, decide_eq_false (fun e => h e.symm), Bool.false_or])
  exact go l.length 0 (by omega)
theorem limit_cl (n : Int) : mn 1000000000000 (mx 0 n) = clB n := by unfold clB; simp only [mn_eq, mx_eq]; omega
def setF (o : S33) (l : List ByteArray) : S33 := ⟨⟨o.f0.f0, o.f0.f1, o.f0.f2, o.f0.f3, o.f0.f4, o.f0.f5, o.f0.f6, o.f0.f7, o.f0.f8, o.f0.f9, o.f0.f10, l, o.f0.f12⟩, o.f1, o.f2⟩
theorem ref2_ev (o : S33) (name : ByteArray) (now grace : Int) (add : Bool) : Ev (fun k => orchestratorref21_Begin.j2 k now grace o.f0.f0 o.f0.f1 o.f0.f2 o.f0.f3 o.f0.f4 o.f0.f5 o.f0.f6 o.f0.f7 o.f0.f8 o.f0.f9 o.f0.f10 o.f0.f11 o.f0.f12 o.f1.f0 o.f1.f1 o.f1.f2 o.f1.f3 o.f1.f4 o.f2.f0 o.f2.f1 o.f2.f2 o.f2.f3 o.f2.f4 (setF o (if add = true then o.f0.f11 ++ [name] else o.f0.f11)).f0.f0 (setF o (if add = true then o.f0.f11 ++ [name] else o.f0.f11)).f0.f1 (setF o (if add = true then o.f0.f11 ++ [name] else o.f0.f11)).f0.f2 (setF o (if add = true then o.f0.f11 ++ [name] else o.f0.f11)).f0.f3 (setF o (if add = true then o.f0.f11 ++ [name] else o.f0.f11)).f0.f4 (setF o (if add = true then o.f0.f11 ++ [name] else o.f0.f11)).f0.f5 (setF o (if add = true then o.f0.f11 ++ [name] else o.f0.f11)).f0.f6 (setF o (if add = true then o.f0.f11 ++ [name] else o.f0.f11)).f0.f7 (setF o (if add = true then o.f0.f11 ++ [name] else o.f0.f11)).f0.f8 (setF o (if add = true then o.f0.f11 ++ [name] else o.f0.f11)).f0.f9 (setF o (if add = true then o.f0.f11 ++ [name] else o.f0.f11)).f0.f10 (setF o (if add = true then o.f0.f11 ++ [name] else o.f0.f11)).f0.f11 (setF o (if add = true then o.f0.f11 ++ [name] else o.f0.f11)).f0.f12) (RT (begS add name o now grace, 0)) := by
  have hw : wrap64 (clB now + clB grace) = clB now + clB grace := wrap_id (by have := clB_le now; have := clB_le grace; omega) (by have := clB_le now; have := clB_le grace; omega)
  refine Ev.step (fun k => rfl) ?_
  simp only [orchestratorref21_Begin.j2, orchestratorref21_limit.f, Option.bind_some, limit_cl, hw, setF, show clB (clB now + clB grace) = endB now grace from rfl]
  refine Ev.ite (fun h => ?_) (fun h => ?_)
  · refine Ev.ite (fun h2 => ?_) (fun h2 => ?_)
    · exact Ev.eq (Ev.now _) (by simp only [RT, begS, delAt, if_pos h, if_pos h2])
    · exact Ev.eq (Ev.now _) (by simp only [RT, begS, delAt, if_pos h, if_neg h2])
  · exact Ev.eq (Ev.now _) (by simp only [RT, begS, delAt, if_neg h])
theorem ref1_ev (o : S33) (ho : X33 o) (name : ByteArray) (now grace : Int) (add : Bool) : Ev (fun k => orchestratorref21_Begin.j1 k now grace name add o.f0.f0 o.f0.f1 o.f0.f2 o.f0.f3 o.f0.f4 o.f0.f5 o.f0.f6 o.f0.f7 o.f0.f8 o.f0.f9 o.f0.f10 o.f0.f11 o.f0.f12 o.f1.f0 o.f1.f1 o.f1.f2 o.f1.f3 o.f1.f4 o.f2.f0 o.f2.f1 o.f2.f2 o.f2.f3 o.f2.f4 o.f0.f0 o.f0.f1 o.f0.f2 o.f0.f3 o.f0.f4 o.f0.f5 o.f0.f6 o.f0.f7 o.f0.f8 o.f0.f9 o.f0.f10 o.f0.f11 o.f0.f12) (RT (begA add name o now grace)) := by
  have hn := len_of ho.1.2.2.2.2.2.2.2.2.2.2.2.1 (by decide)
  have h2 := ref2_ev o name now grace add
  refine Ev.step (fun k => rfl) ?_
  cases add with
  | true =>
    simp only [orchestratorref21_Begin.j1, if_true]
    refine Ev.ite (fun hc => ?_) (fun hc => ?_)
    · exact Ev.eq (Ev.now _) (by simp only [RT, begA, show 16 ≤ o.f0.f11.length by omega, and_self, if_true, zeroO])
    · simp only [Option.bind_some, List.nil_append, List.length_nil, Nat.zero_add, if_pos (show o.f0.f11.length < 8796093022208 by omega)]
      simp only [if_true] at h2
      exact Ev.eq h2 (by simp only [begA, show ¬ 16 ≤ o.f0.f11.length by omega, and_false, if_false])
  | false =>
    simp only [orchestratorref21_Begin.j1, Bool.false_eq_true, if_false]
    simp only [Bool.false_eq_true, if_false] at h2
    exact Ev.eq h2 (by simp only [begA, Bool.false_eq_true, false_and, if_false])
theorem ref0_ev (o : S33) (ho : X33 o) (name : ByteArray) (now grace : Int) : Ev (fun k => orchestratorref21_Begin.j0 k now grace name o.f0.f0 o.f0.f1 o.f0.f2 o.f0.f3 o.f0.f4 o.f0.f5 o.f0.f6 o.f0.f7 o.f0.f8 o.f0.f9 o.f0.f10 o.f0.f11 o.f0.f12 o.f1.f0 o.f1.f1 o.f1.f2 o.f1.f3 o.f1.f4 o.f2.f0 o.f2.f1 o.f2.f2 o.f2.f3 o.f2.f4) (RT (begO name o now grace)) := by
  have hn := len_of ho.1.2.2.2.2.2.2.2.2.2.2.2.1 (by decide)
  refine Ev.step (fun k => rfl) ?_
  simp only [orchestratorref21_Begin.j0]
  refine Ev.ite (fun h => ?_) (fun h => ?_)
  · exact Ev.eq (ref1_ev o ho name now grace false) (by simp only [begO, addB, h, decide_true, Bool.not_true, Bool.false_and])
  · refine Ev.bind (has_ev o.f0.f11 name (by omega)) ?_
    exact Ev.eq (ref1_ev o ho name now grace _) (by simp only [begO, addB, h, decide_false, Bool.not_false, Bool.true_and])
theorem rbegin_ev (o : S33) (ho : X33 o) (now grace p : Int) : Ev (fun k => orchestratorref21_Begin.f k o.f0.f0 o.f0.f1 o.f0.f2 o.f0.f3 o.f0.f4 o.f0.f5 o.f0.f6 o.f0.f7 o.f0.f8 o.f0.f9 o.f0.f10 o.f0.f11 o.f0.f12 o.f1.f0 o.f1.f1 o.f1.f2 o.f1.f3 o.f1.f4 o.f2.f0 o.f2.f1 o.f2.f2 o.f2.f3 o.f2.f4 now grace p) (RT (beginB o now grace p)) := by
  unfold orchestratorref21_Begin.f beginB
  refine Ev.ite (fun h => ?_) (fun h => ?_)
  · rw [if_neg (show ¬ p = 0 by omega), if_pos h]; exact ref0_ev o ho _ now grace
  · rw [if_neg h]
    refine Ev.ite (fun h2 => ?_) (fun h2 => ?_)
    · rw [if_neg (show ¬ p = 0 by omega), if_pos h2]; exact ref0_ev o ho _ now grace
    · rw [if_neg h2]
      refine Ev.ite (fun h3 => ?_) (fun h3 => ?_)
      · rw [if_pos h3]; exact ref0_ev o ho _ now grace
      · rw [if_neg h3]; exact Ev.now _
theorem zero_fits : X33 zeroO := by
  have hv : X31 ⟨0, 0, ⟨#[]⟩, [], []⟩ := X31_iff.2 ⟨by unfold I64; decide, by unfold I64; decide, by unfold SzOk; decide, ⟨by simp, by simp⟩, ⟨by simp, by simp⟩⟩
  refine ⟨⟨?_, ?_, ?_, ?_, ?_, ?_, ?_, trivial, ?_, ⟨?_, ?_⟩, ⟨?_, ?_⟩, ⟨?_, ?_⟩, ⟨?_, ?_⟩⟩, hv, hv⟩ <;> first | (simp [zeroO]; done) | (simp only [zeroO]; unfold SzOk; decide) | (simp only [zeroO]; unfold I64; decide)
theorem begin_fits' (o : S33) (ho : X33 o) (a b p : Int) : X33 (beginB o a b p).1 := by
  by_cases h : (beginB o a b p).2 = 0
  · obtain ⟨_, _, _, hf⟩ := begin_fits o ho a b p h
    exact hf
  · have hz : (beginB o a b p).1 = zeroO := by
      have one : ∀ name, ¬ (begO name o a b).2 = 0 → (begO name o a b).1 = zeroO := by
        intro name h0
        unfold begO begA at h0 ⊢
        by_cases hc : addB name o = true ∧ 16 ≤ o.f0.f11.length
        · rw [if_pos hc]
        · rw [if_neg hc] at h0; exact absurd rfl h0
      unfold beginB at h ⊢
      by_cases h0 : p = 0
      · rw [if_pos h0] at h ⊢; exact one _ h
      · rw [if_neg h0] at h ⊢
        by_cases h1 : p = 1
        · rw [if_pos h1] at h ⊢; exact one _ h
        · rw [if_neg h1] at h ⊢
          by_cases h2 : p = 2
          · rw [if_pos h2] at h ⊢; exact one _ h
          · rw [if_neg h2]
    rw [hz]; exact zero_fits
end Go.Proofs.Ythkdpkgkejdcgaa.Pure
