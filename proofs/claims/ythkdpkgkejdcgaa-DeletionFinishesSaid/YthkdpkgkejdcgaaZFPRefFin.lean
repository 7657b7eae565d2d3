/- Part of a claim: see its row. Conditions: stated at each. -/
import Derived.Test.YthkdpkgkejdcgaaZFQ13
import Derived.Test.YthkdpkgkejdcgaaZFPRef
namespace Go.Proofs.Ythkdpkgkejdcgaa.Pure
open Go.RowKit Go.Proofs.Ythkdpkgkejdcgaa.Q Go.Proofs.Ythkdpkgkejdcgaa.Opn Go.Proofs.YthkdpkgkejdcgaaW.PrintWords Go.Proofs.YthkdpkgkejdcgaaW.PrintLast Go.Proofs.YthkdpkgkejdcgaaW.PrintMore Go.Proofs.Ythkdpkgkejdcgaa.Pur
set_option linter.unusedVariables false
set_option linter.unusedSimpArgs false
theorem rfin_loop (o : S33) (s : ByteArray) (hn : o.f0.f11.length < 8796093022208) : ∀ (d j : Nat) (x : List ByteArray), j + d = o.f0.f11.length → x = keepB s (o.f0.f11.take j) → Ev (fun k => orchestratorref21_Finish.l0 k s x (j : Int) o.f0.f0 o.f0.f1 o.f0.f2 o.f0.f3 o.f0.f4 o.f0.f5 o.f0.f6 o.f0.f7 o.f0.f8 o.f0.f9 o.f0.f10 o.f0.f11 o.f0.f12 o.f1.f0 o.f1.f1 o.f1.f2 o.f1.f3 o.f1.f4 o.f2.f0 o.f2.f1 o.f2.f2 o.f2.f3 o.f2.f4 o.f0.f0 o.f0.f1 o.f0.f2 o.f0.f3 o.f0.f4 o.f0.f5 o.f0.f6 o.f0.f7 o.f0.f8 o.f0.f9 o.f0.f10 o.f0.f11 o.f0.f12) (RT (finS s o, 0)) := by
  intro d
  induction d with
  | zero =>
    intro j x hj hx
    have : j = o.f0.f11.length := by omega
    subst this
    refine Ev.step (fun k => rfl) ?_
    simp only [orchestratorref21_Finish.l0, Int.lt_irrefl, if_false]
    rw [List.take_length] at hx
    subst hx
    exact Ev.now _
  | succ d ih =>
    intro j x hj hx
    have hlt : j < o.f0.f11.length := by omega
    have h1 : (j : Int) < (o.f0.f11.length : Int) := by omega
    have hl : x.length ≤ j := by
      rw [hx]
      have := keep_le s (o.f0.f11.take j)
      rw [List.length_take] at this
      omega
    refine Ev.step (fun k => rfl) ?_
    simp only [orchestratorref21_Finish.l0, if_pos h1, if_pos (show (0 : Int) ≤ (j : Int) by omega), rdS hlt, wrap_succ hlt (show o.f0.f11.length ≤ 4611686018427387904 by omega), if_pos (show x.length < 8796093022208 by omega)]
    refine Ev.ite (fun h => ?_) (fun h => ?_)
    · refine ih (j + 1) x (by omega) ?_
      rw [keep_take s _ hlt, if_pos (by rw [h]; exact BEq.rfl), List.append_nil]; exact hx
    · refine ih (j + 1) _ (by omega) ?_
      rw [keep_take s _ hlt, if_neg (fun e => h (eq_of_beq e)), hx]
theorem rfinish_ev (o : S33) (ho : X33 o) (s : ByteArray) : Ev (fun k => orchestratorref21_Finish.f k o.f0.f0 o.f0.f1 o.f0.f2 o.f0.f3 o.f0.f4 o.f0.f5 o.f0.f6 o.f0.f7 o.f0.f8 o.f0.f9 o.f0.f10 o.f0.f11 o.f0.f12 o.f1.f0 o.f1.f1 o.f1.f2 o.f1.f3 o.f1.f4 o.f2.f0 o.f2.f1 o.f2.f2 o.f2.f3 o.f2.f4 s) (RT (finishB o s)) := by
  have hn := ho.1.2.2.2.2.2.2.2.2.2.2.2.1.1
  unfold orchestratorref21_Finish.f
  refine Ev.bind (has_ev o.f0.f11 s (by omega)) (Ev.ite (fun h => ?_) (fun h => ?_))
  · exact Ev.eq (rfin_loop o s (by omega) o.f0.f11.length 0 [] (by omega) rfl) (by simp only [finishB, h, if_true])
  · exact Ev.eq (Ev.now _) (by simp only [finishB, if_neg h, RT, zeroO])
theorem rdue_some (o : S33) (now : Int) : orchestratorref21_Due.f o.f0.f0 o.f0.f1 o.f0.f2 o.f0.f3 o.f0.f4 o.f0.f5 o.f0.f6 o.f0.f7 o.f0.f8 o.f0.f9 o.f0.f10 o.f0.f11 o.f0.f12 o.f1.f0 o.f1.f1 o.f1.f2 o.f1.f3 o.f1.f4 o.f2.f0 o.f2.f1 o.f2.f2 o.f2.f3 o.f2.f4 now = some (dueB o now) := due_some o now
theorem finish_fits' (o : S33) (ho : X33 o) (s : ByteArray) : X33 (finishB o s).1 := by
  unfold finishB
  by_cases hc : hasS o.f0.f11 s = true
  · rw [if_pos hc]; exact finS_fits o ho s
  · rw [if_neg hc]; exact zero_fits
end Go.Proofs.Ythkdpkgkejdcgaa.Pure
