/- Part of a claim: see its row. Conditions: stated at each. -/
import Derived.Test.YthkdpkgkejdcgaaZFQ13
import Derived.Test.YthkdpkgkejdcgaaZFPFin
namespace Go.Proofs.Ythkdpkgkejdcgaa.Pure
open Go.RowKit Go.Proofs.Ythkdpkgkejdcgaa.Q Go.Proofs.Ythkdpkgkejdcgaa.Opn Go.Proofs.YthkdpkgkejdcgaaW.PrintWords Go.Proofs.YthkdpkgkejdcgaaW.PrintLast Go.Proofs.YthkdpkgkejdcgaaW.PrintMore Go.Proofs.Ythkdpkgkejdcgaa.Pur
set_option linter.unusedVariables false
set_option linter.unusedSimpArgs false
theorem has_ev (l : List ByteArray) (s : ByteArray) (hn : l.length ≤ 4611686018427387904) : Ev (fun k => orchestratorref21_has.f k l s) (hasS l s) := by
  have go : ∀ (d j : Nat), j + d = l.length → Ev (fun k => orchestratorref21_has.l0 k l s (j : Int)) (hasS (l.drop j) s) := by
    intro d
    induction d with
    | zero =>
      intro j hj
      have : j = l.length := by omega
      subst this
      refine Ev.step (fun k => rfl) ?_
      simp only [orchestratorref21_has.l0, Int.lt_irrefl, if_false, List.drop_length]
      exact Ev.now _
    | succ d ih =>
      intro j hj
      have hlt : j < l.length := by omega
      have h1 : (j : Int) < (l.length : Int) := by omega
      have hd : hasS (l.drop j) s = (decide (s.toList = l[j].toList) || hasS (l.drop (j + 1)) s) := by
        unfold hasS
        rw [List.drop_eq_getElem_cons hlt, List.any_cons]
      refine Ev.step (fun k => rfl) ?_
      simp only [orchestratorref21_has.l0, if_pos h1, if_pos (show (0 : Int) ≤ (j : Int) by omega), rdS hlt, wrap_succ hlt hn]
      refine Ev.ite (fun h => ?_) (fun h => ?_)
      · exact Ev.eq (Ev.now _) (by rw [hd, decide_eq_true h.symm, Bool.true_or])
      · exact Ev.eq (ih (j + 1) (by omega)) (by rw [hd, decide_eq_false (fun e => h e.symm), Bool.false_or])
  exact go l.length 0 (by omega)
theorem zero_fits : X33 zeroO := by
  have hv : X31 ⟨0, 0, ⟨#[]⟩, [], []⟩ := X31_iff.2 ⟨by unfold I64; decide, by unfold I64; decide, by unfold SzOk; decide, ⟨by simp, by simp⟩, ⟨by simp, by simp⟩⟩
  refine ⟨⟨?_, ?_, ?_, ?_, ?_, ?_, ?_, trivial, ?_, ⟨?_, ?_⟩, ⟨?_, ?_⟩, ⟨?_, ?_⟩, ⟨?_, ?_⟩⟩, hv, hv⟩ <;> first | (simp [zeroO]; done) | (simp only [zeroO]; unfold SzOk; decide) | (simp only [zeroO]; unfold I64; decide)
end Go.Proofs.Ythkdpkgkejdcgaa.Pure
