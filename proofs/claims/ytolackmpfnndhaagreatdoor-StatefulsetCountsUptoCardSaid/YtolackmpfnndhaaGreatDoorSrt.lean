/- Rows sorted by their first string. Conditions: stated at each. -/
import Derived.Test.YtolackmpfnndhaaGreatDoorSndE
import Derived.Sort.Walk0
namespace Go.Proofs.YtolackmpfnndhaaGreatDoor.Ev
open Go Go.RowKit
set_option linter.unusedVariables false
set_option linter.unusedSimpArgs false
variable {P : Program}
theorem sLt_lt (s t : ByteArray) : sLt s t = decide (s.data.toList < t.data.toList) := by
  unfold sLt
  rw [Go.Proofs.bytesLess_eq, ByteArray.toList_eq, ByteArray.toList_eq]
theorem data_inj {s t : ByteArray} (h : s.data.toList = t.data.toList) : s = t := ByteArray.ext (Array.toList_inj.1 h)
theorem sLt_false {s t : ByteArray} (h : sLt s t = false) (k : sLt t s = false) : s = t := by
  rw [sLt_lt] at h k
  simp only [decide_eq_false_iff_not, List.not_lt] at h k
  exact data_inj (List.le_antisymm k h)
theorem sLt_trans' {a b c : ByteArray} (h : sLt b a = false) (k : sLt c b = false) : sLt c a = false := by
  rw [sLt_lt] at h k ⊢
  simp only [decide_eq_false_iff_not, List.not_lt] at h k ⊢
  exact List.le_trans h k
theorem sLt_total (a b : ByteArray) : (!sLt b a || !sLt a b) = true := by
  rw [sLt_lt, sLt_lt]
  rcases List.le_total a.data.toList b.data.toList with h | h
  · have : ¬ b.data.toList < a.data.toList := List.not_lt.2 h
    simp [this]
  · have : ¬ a.data.toList < b.data.toList := List.not_lt.2 h
    simp [this]
theorem mHas_iff {es : Rows} {s : ByteArray} : mHas es s = true ↔ ∃ q, q ∈ es ∧ rStr q 0 = s := by
  unfold mHas
  rw [List.any_eq_true]
  constructor
  · rintro ⟨q, h1, h2⟩
    refine ⟨q, h1, ?_⟩
    unfold sEq at h2
    rw [beq_iff_eq, ByteArray.toList_eq, ByteArray.toList_eq] at h2
    exact data_inj h2
  · rintro ⟨q, h1, h2⟩
    exact ⟨q, h1, by subst h2; unfold sEq; simp⟩
theorem mOk_pair : ∀ {es : Rows}, mOk es = true → es.Pairwise fun a b => rStr a 0 ≠ rStr b 0
  | [], _ => List.Pairwise.nil
  | q :: l, h => by
    have h' : (!mHas l (rStr q 0) && mOk l) = true := h
    rw [Bool.and_eq_true, Bool.not_eq_true'] at h'
    refine List.Pairwise.cons (fun b hb e => ?_) (mOk_pair h'.2)
    have : mHas l (rStr q 0) = true := mHas_iff.2 ⟨b, hb, e.symm⟩
    rw [h'.1] at this; cases this
theorem mOk_inj {es : Rows} (h : mOk es = true) {a b : Row} (ha : a ∈ es) (hb : b ∈ es) (e : rStr a 0 = rStr b 0) : a = b := by
  have hp := mOk_pair h
  induction es with
  | nil => cases ha
  | cons q l ih =>
    rw [List.pairwise_cons] at hp
    have h' : (!mHas l (rStr q 0) && mOk l) = true := h
    rw [Bool.and_eq_true] at h'
    rcases List.mem_cons.1 ha with ha1 | ha1 <;> rcases List.mem_cons.1 hb with hb1 | hb1
    · rw [ha1, hb1]
    · exact absurd (ha1 ▸ e) (hp.1 b hb1)
    · exact absurd (hb1 ▸ e).symm (hp.1 a ha1)
    · exact ih h'.2 ha1 hb1 hp.2
theorem insC_perm (q : Row) : ∀ (es : Rows), (insC q es).Perm (q :: es)
  | [] => List.Perm.refl _
  | a :: l => by
    show (bif sLt (rStr a 0) (rStr q 0) then a :: insC q l else q :: a :: l).Perm _
    cases sLt (rStr a 0) (rStr q 0) with
    | true => exact ((insC_perm q l).cons a).trans (List.Perm.swap q a l)
    | false => exact List.Perm.refl _
theorem insC_sorted (q : Row) : ∀ (es : Rows), (es.Pairwise fun a b => sLt (rStr b 0) (rStr a 0) = false) → ((insC q es).Pairwise fun a b => sLt (rStr b 0) (rStr a 0) = false)
  | [], _ => List.pairwise_singleton _ _
  | a :: l, h => by
    rw [List.pairwise_cons] at h
    show (bif sLt (rStr a 0) (rStr q 0) then a :: insC q l else q :: a :: l).Pairwise _
    cases hc : sLt (rStr a 0) (rStr q 0) with
    | true =>
      refine List.Pairwise.cons (fun b hb => ?_) (insC_sorted q l h.2)
      rcases List.mem_cons.1 ((insC_perm q l).subset hb) with rfl | hb
      · rw [sLt_lt] at hc ⊢
        simp only [decide_eq_true_eq] at hc
        exact decide_eq_false (fun h2 => List.lt_irrefl _ (List.lt_trans hc h2))
      · exact h.1 b hb
    | false =>
      refine List.Pairwise.cons (fun b hb => ?_) (List.pairwise_cons.2 h)
      rcases List.mem_cons.1 hb with rfl | hb
      · exact hc
      · exact sLt_trans' hc (h.1 b hb)
theorem sortC_perm : ∀ (es : Rows), (sortC es).Perm es
  | [] => List.Perm.refl _
  | q :: l => (insC_perm q (sortC l)).trans ((sortC_perm l).cons q)
theorem sortC_sorted : ∀ (es : Rows), (sortC es).Pairwise fun a b => sLt (rStr b 0) (rStr a 0) = false
  | [] => List.Pairwise.nil
  | q :: l => insC_sorted q _ (sortC_sorted l)
/-- There is one sorted list of rows with different keys. -/
theorem sortC_unique {r ds : Rows} (hp : ds.Perm r) (hs : ds.Pairwise fun a b => sLt (rStr b 0) (rStr a 0) = false) (hm : mOk r = true) : ds = sortC r := by
  refine List.Perm.eq_of_pairwise (le := fun a b => sLt (rStr b 0) (rStr a 0) = false) (fun a b ha hb h1 h2 => ?_) hs (sortC_sorted r) (hp.trans (sortC_perm r).symm)
  exact mOk_inj hm (hp.subset ha) ((sortC_perm r).subset hb) (sLt_false h2 h1)
end Go.Proofs.YtolackmpfnndhaaGreatDoor.Ev
