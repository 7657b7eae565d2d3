/- Part of a claim: see its row. Conditions: stated at each. -/
import Derived.Test.YthkdpkgkejdcgaaZBPBeg
namespace Go.Proofs.Ythkdpkgkejdcgaa.Pure
open Go.RowKit Go.Proofs.Ythkdpkgkejdcgaa.Q Go.Proofs.Ythkdpkgkejdcgaa.Opn Go.Proofs.YthkdpkgkejdcgaaW.PrintWords Go.Proofs.YthkdpkgkejdcgaaW.PrintLast Go.Proofs.YthkdpkgkejdcgaaW.PrintMore Go.Proofs.Ythkdpkgkejdcgaa.Pur
set_option linter.unusedVariables false
set_option linter.unusedSimpArgs false
theorem lives_ev : Ev (fun k => orchestratorlaw21_lives.f k) true := Ev.of (fun k => orchestratorlaw21_lives.mono k) (k := 20) (by decide +kernel)
theorem i64_at {o : S33} (ho : X33 o) (a b : Int) : I64 (delAt o (endB a b)) := by
  have h8 : I64 o.f0.f8 := ho.1.2.2.2.2.2.2.2.2.1
  have he := clB_le (clB a + clB b)
  unfold I64 at h8 ⊢
  unfold delAt endB
  by_cases h : o.f0.f7 = true
  · rw [if_pos h]
    by_cases h2 : clB (clB a + clB b) < o.f0.f8
    · rw [if_pos h2]; omega
    · rw [if_neg h2]; exact h8
  · rw [if_neg h]; omega
theorem begS_fits (o : S33) (ho : X33 o) (add : Bool) (name : ByteArray) (hname : SzOk name) (a b : Int) (hl : add = true → o.f0.f11.length < 16) : X33 (begS add name o a b) := by
  obtain ⟨⟨q0, q1, q2, q3, q4, q5, q6, q7, q8, q9, q10, q11, q12⟩, hv1, hv2⟩ := ho
  refine ⟨⟨q0, q1, q2, q3, q4, q5, q6, trivial, i64_at ⟨⟨q0, q1, q2, q3, q4, q5, q6, q7, q8, q9, q10, q11, q12⟩, hv1, hv2⟩ a b, q9, q10, ?_, q12⟩, hv1, hv2⟩
  cases add with
  | false => exact q11
  | true =>
    have h16 := hl rfl
    refine ⟨?_, fun x hx => ?_⟩
    · simp only [begS, if_true, List.length_append, List.length_cons, List.length_nil]; omega
    · simp only [begS, if_true] at hx
      rcases List.mem_append.1 hx with hx | hx
      · exact q11.2 x hx
      · rw [List.mem_singleton.1 hx]; exact hname
theorem begin_fits (o : S33) (ho : X33 o) (a b p : Int) (h : (beginB o a b p).2 = 0) : ∃ add name, (beginB o a b p).1 = begS add name o a b ∧ X33 (beginB o a b p).1 := by
  have one : ∀ name, SzOk name → (begO name o a b).2 = 0 → ∃ add name', (begO name o a b).1 = begS add name' o a b ∧ X33 (begO name o a b).1 := by
    intro name hname h0
    unfold begO begA at h0 ⊢
    by_cases hc : addB name o = true ∧ 16 ≤ o.f0.f11.length
    · rw [if_pos hc] at h0; simp at h0
    · rw [if_neg hc]
      exact ⟨_, _, rfl, begS_fits o ho _ name hname a b (fun ha => Nat.lt_of_not_le (fun h2 => hc ⟨ha, h2⟩))⟩
  unfold beginB at h ⊢
  by_cases h0 : p = 0
  · rw [if_pos h0] at h ⊢; exact one _ (by unfold SzOk; decide) h
  · rw [if_neg h0] at h ⊢
    by_cases h1 : p = 1
    · rw [if_pos h1] at h ⊢; exact one _ (by unfold SzOk; decide) h
    · rw [if_neg h1] at h ⊢
      by_cases h2 : p = 2
      · rw [if_pos h2] at h ⊢; exact one _ (by unfold SzOk; decide) h
      · rw [if_neg h2] at h; simp at h
end Go.Proofs.Ythkdpkgkejdcgaa.Pure
