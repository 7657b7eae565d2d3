/- ScoreSays: the plain law. Conditions: stated at each. -/
import Derived.Test.YtilppppcafphbaaGreatL39
namespace Go.Proofs.YtilppppcafphbaaGreat.Ev
open Go Go.RowKit
set_option linter.unusedVariables false
set_option linter.unusedSimpArgs false
set_option maxRecDepth 100000
noncomputable section
theorem lives39V : law39_lives.v = true := by kernel_rfl
theorem scoreSaysV (a0 a1 a2 : Row) (hN : (rSl a0 1).length ≤ 1048576) : law39_ScoreSays.v a0 a1 a2 = true := by
  have hN' : (rSl (et 26 a0) 1).length ≤ 1048576 := by
    have e : rSl (et 26 a0) 1 = rSl a0 1 := by kernel_rfl
    rw [e]; exact hN
  unfold law39_ScoreSays.v
  dsimp only
  rw [lives39V, spareV, balanceV, totalV _ _ _ hN', iEq_refl]
  generalize law39_small.v _ _ _ = r0
  generalize law36_SmallNode.v _ = s1
  generalize law36_Distinct.v _ = s2
  generalize ref39_Balance.v _ _ _ = b
  generalize ref39_Total.v _ _ _ = t
  simp only [cond_true, iEq_refl, bIte]
  cases (bif bif bNot r0 then true else bNot (bif bNot (bNot r0) then s1 else default) then true else bNot (bif bNot (bif bNot r0 then true else bNot (bif bNot (bNot r0) then s1 else default)) then s2 else default)) <;> rfl
theorem law39_ScoreSays.true_ (a0 a1 a2 : Row) (h0 : Br a0) (h1 : Br a1) (h2 : Br a2) : D (fun k => (law39_ScoreSays.f k a0 a1 a2).eval) (fun u => u = true) := (law39_ScoreSays.val a0 a1 a2 h0 h1 h2).true_ (scoreSaysV a0 a1 a2 ((h0.sl 1).1))
end
end Go.Proofs.YtilppppcafphbaaGreat.Ev
