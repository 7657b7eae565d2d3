/- An octet, opened. Conditions: stated at each. -/
import Derived.Test.YtilppppcafphbaaGreatL39p
namespace Go.Proofs.YtilppppcafphbaaGreat.Ev
open Go Go.RowKit
set_option linter.unusedVariables false
theorem arg_u8 {P : Program} {W : World} {n t : Nat} (hu : P.underlying t = some (.int .u8)) (hc : ctsOf P t = [t]) {m : Int} {r : Row} (h : Opened P true W n t (Value.int .u8 m).cells.toList r) : 0 ≤ m ∧ m ≤ 255 := by
  obtain ⟨h1, h2, h3⟩ := h
  rw [show (Value.int .u8 m).cells.toList = [.int .u8 m] from rfl] at h1 h3
  match r, h1 with
  | [x], _ =>
    have h4 := h2.2 0 x t rfl (by rw [hc]; rfl)
    cases n with
    | zero => exact h4.elim
    | succ n =>
      unfold CellOk at h4
      rw [hu] at h4
      obtain ⟨m', rfl, h5⟩ := h4
      have e := rep_int_inv (h3 0 _ _ rfl rfl)
      injection e with _ e
      subst e
      have h6 : (decide ((0 : Int) ≤ m) && decide (m ≤ 255)) = true := h5
      rw [Bool.and_eq_true] at h6
      exact ⟨of_decide_eq_true h6.1, of_decide_eq_true h6.2⟩
end Go.Proofs.YtilppppcafphbaaGreat.Ev
