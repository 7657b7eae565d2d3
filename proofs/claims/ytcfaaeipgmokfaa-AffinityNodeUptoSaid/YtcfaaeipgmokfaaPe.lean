/- What the program says of labels and nodes is what the document says. Conditions: stated at each. -/
import Derived.Test.YtcfaaeipgmokfaaPl
import Derived.Test.YtcfaaeipgmokfaaE0
namespace Go.Proofs.Ytcfaaeipgmokfaa.Ev
open Go Go.RowKit
set_option linter.unusedVariables false
set_option linter.unusedSimpArgs false
set_option maxRecDepth 100000
theorem sEq_comm (s t : ByteArray) : sEq s t = sEq t s := by
  unfold sEq
  exact Bool.eq_iff_iff.2 ⟨fun h => by rw [beq_iff_eq] at h ⊢; exact h.symm, fun h => by rw [beq_iff_eq] at h ⊢; exact h.symm⟩
theorem get_eq (k : Nat) (a : Rows) (s : ByteArray) : (label_Get.f k a s).eval = (ref03_Get.f k a s).eval := by
  have h : ∀ x, (label_Get.s2 k s a (rLen a) x).eval = (ref03_Get.s2 k a s x).eval := by
    intro x
    simp only [label_Get.s2, ref03_Get.s2, T.eval]
    cases iLt x (rLen a) <;> cases iIn x (rLen a) <;> cases sEq (rStr (rAt a x) 0) s <;> rfl
  unfold label_Get.f ref03_Get.f
  simp only [T.eval]
  rw [iter_congr h]
theorem has_eq (k : Nat) (a : Rows) (s : ByteArray) : (slices_Contains_string_string.f k a s).eval = (ref03_among.f k a s).eval := by
  have h : ∀ x, ((slices_Index_string_string.s2 k a s (rLen a) x).eval).map (Sum.map id (Sum.map (fun i => iLe 0 i) id)) = (ref03_among.s2 k a s x).eval := by
    intro x
    simp only [slices_Index_string_string.s2, ref03_among.s2, T.eval]
    rw [sEq_comm s]
    cases iLt x (rLen a) with
    | false => rfl
    | true =>
      cases hin : iIn x (rLen a) with
      | false => rfl
      | true =>
        cases sEq (rStr (rAt a x) 0) s with
        | false => rfl
        | true =>
          have h0 : iLe 0 x = true := decide_eq_true (of_decide_eq_true hin).1
          simp [h0]
  unfold slices_Contains_string_string.f slices_Index_string_string.f ref03_among.f
  simp only [T.eval]
  rw [← iter_sim _ h]
  cases iter (slices_Index_string_string.s2 k a s (rLen a)) k 0 with
  | none => rfl
  | some v => cases v with
    | inl i => rfl
    | inr u => rfl
theorem holds_eq (k : Nat) (r : Row) (a : Rows) : (label_holds.f k r a).eval = (ref03_holds.f k r a).eval := by
  unfold label_holds.f ref03_holds.f
  simp only [T.eval]
  rw [get_eq]
  cases (ref03_Get.f k a (rStr r 0)).eval with
  | none => rfl
  | some g =>
    simp only [Option.bind_some, has_eq]
    cases h1 : iEq (rInt r 1) 1 with
    | true => rfl
    | false =>
      cases h2 : iEq (rInt r 1) 2 with
      | true => rfl
      | false =>
        cases h3 : iEq (rInt r 1) 3 with
        | true =>
          have e : rInt r 1 = 3 := by simpa [iEq] using h3
          have h4 : iEq (rInt r 1) 4 = false := by rw [e]; rfl
          rw [h4]
          cases g.2 <;> rfl
        | false => cases h4 : iEq (rInt r 1) 4 <;> cases g.2 <;> rfl
theorem matches_eq (k : Nat) (a b : Rows) : (label_Matches.f k a b).eval = (ref03_Matches.f k a b).eval := by
  have h : ∀ x, (label_Matches.s2 k b a (rLen a) x).eval = (ref03_Matches.s2 k a b x).eval := by
    intro x
    simp only [label_Matches.s2, ref03_Matches.s2, T.eval, holds_eq]
  unfold label_Matches.f ref03_Matches.f
  simp only [T.eval]
  rw [iter_congr h]
theorem domain_eq (k : Nat) (n : Row) (s : ByteArray) : (affinity_Domain.f k n s).eval = (ref36_Domain.f k n s).eval := by
  unfold affinity_Domain.f ref36_Domain.f
  simp only [T.eval, get_eq]
theorem et35_6 (r : Row) : rSl (et 35 r) 6 = rSl r 6 := by kernel_rfl
theorem nodeFits_eq (k : Nat) (p n : Row) : (affinity_NodeFits.f k p n).eval = (ref36_NodeFits.f k p n).eval := by
  have h : ∀ x, (affinity_NodeFits.s4 k (rSl p 6) (rLen (rSl p 6)) (et 46 n) x).eval = (ref36_NodeFits.s4 k (et 35 p) (et 46 n) x).eval := by
    intro x
    simp only [affinity_NodeFits.s4, ref36_NodeFits.s4, T.eval, matches_eq, et35_6]
    cases iLt x (rLen (rSl p 6)) with
    | false => rfl
    | true =>
      cases iIn x (rLen (rSl p 6)) with
      | false => rfl
      | true => cases rBool (rAt (rSl p 6) x) 0 <;> rfl
  unfold affinity_NodeFits.f ref36_NodeFits.f
  simp only [T.eval, matches_eq]
  rw [iter_congr h]
end Go.Proofs.Ytcfaaeipgmokfaa.Ev
