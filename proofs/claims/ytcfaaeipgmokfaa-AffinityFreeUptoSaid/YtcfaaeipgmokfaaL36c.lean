/- The plain laws of affinity: pods and their place in the view. Conditions: stated at each. -/
import Derived.Test.YtcfaaeipgmokfaaL36b
namespace Go.Proofs.Ytcfaaeipgmokfaa.Ev
open Go Go.RowKit
set_option linter.unusedVariables false
set_option linter.unusedSimpArgs false
set_option maxRecDepth 100000
noncomputable section
/-- A view with other pods. -/
def withPods (v : Row) (r : Rows) : Row := [.slice 46 (rSl v 0) .open, .slice 40 r .open, .slice 80 (rSl v 2) .open, .int .i64 (rInt v 3)]
/-- The pods of other keys. -/
def othersOf (v p : Row) : Rows := (rSl v 1).filterMap (fun q => bif !sEq (ref13_KeyOf.v q) (ref13_KeyOf.v p) then some (et 40 q) else none)
/-- A pod without terms. -/
def noTerms (p : Row) : Row := rJ [(et 27 p), [.str (rStr p 13), .int .i64 (rInt p 14), .int .i64 (rInt p 15), .int .i64 (rInt p 16), .slice 137 (rSl p 17) .open, .slice 94 (rSl p 18) .open, .slice 68 (rSl p 19) .open, .slice 65 [] .open, .slice 143 (rSl p 21) .open, .slice 145 (rSl p 22) .open, .int .i64 (rInt p 23), .bool (rBool p 24), .int .i64 (rInt p 25), .int .i64 (rInt p 26), .int .i64 (rInt p 27), .slice 147 (rSl p 28) .open, .int .i64 (rInt p 29), .str (rStr p 30), .str (rStr p 31)]]
theorem nodeOf_with (v q : Row) (r : Rows) : nodeOf (withPods v r) q = nodeOf v q := by kernel_rfl
theorem pods_with (v : Row) (r : Rows) : rSl (withPods v r) 1 = r := by kernel_rfl
theorem counts_et (p q : Row) : counts p (et 40 q) = counts p q := by kernel_rfl
theorem nodeOf_et (v q : Row) : nodeOf v (et 40 q) = nodeOf v q := by kernel_rfl
theorem terms_et (q : Row) : rSl (et 40 q) 20 = rSl q 20 := by kernel_rfl
theorem ns_et (q : Row) : rStr (et 40 q) 1 = rStr q 1 := by kernel_rfl
theorem gatheredW {α : Type} (v p : Row) (g : Row → Row → α) : gathered (withPods v (othersOf v p)) p g = gathered v p (fun q m => g (et 40 q) m) := by
  unfold gathered
  rw [pods_with]
  unfold othersOf
  rw [List.filterMap_filterMap]
  refine filterMap_congr_ (fun q _ => ?_)
  cases hk : sEq (ref13_KeyOf.v q) (ref13_KeyOf.v p) with
  | true =>
    have : counts p q = false := by unfold counts; rw [hk]; rfl
    rw [this]; rfl
  | false =>
    show (bif counts p (et 40 q) then (nodeOf (withPods v _) (et 40 q)).map (g (et 40 q)) else none) = _
    rw [counts_et, nodeOf_with, nodeOf_et]
theorem hereW (v p n t : Row) : hereB (withPods v (othersOf v p)) p n t = hereB v p n t := by
  unfold hereB
  rw [gatheredW]
  simp only [sel_q]
theorem anyW (v p t : Row) : anyB (withPods v (othersOf v p)) p t = anyB v p t := by
  unfold anyB
  rw [gatheredW]
  simp only [sel_q]
theorem againstW (v p n : Row) : againstB (withPods v (othersOf v p)) p n = againstB v p n := by
  unfold againstB
  rw [gatheredW]
  simp only [terms_et, ns_et]
theorem podFitsW (v p n : Row) : ref36_PodFits.v (withPods v (othersOf v p)) p n = ref36_PodFits.v v p n := by
  have e2 : ∀ v, ref36_PodFits.v v p n = Sum.elim (fun r1 => r1) (fun r2 => (bif r2 then 9 else 0)) (walk (ref36_PodFits.p3 v p n) ref36_PodFits.z3 (rSl p 20) 0 (ref36_Against.v v p n)) := fun v => by kernel_rfl
  rw [e2, e2 v, refAgainst, refAgainst, againstW]
  refine congrArg _ (walk_congr (fun i t x _ => ?_) (fun _ => rfl))
  have n2 : ∀ v, ref36_near.v (et 58 v) (et 40 p) (et 46 n) (et 65 t) = ref36_near.v v p n t := fun v => by kernel_rfl
  have n3 : ∀ v, ref36_first.v (et 58 v) (et 40 p) (et 65 t) = ref36_first.v v p t := fun v => by kernel_rfl
  simp only [ref36_PodFits.p3, n2, n3, refNear, refFirst, hereW, anyW]
theorem preferenceW (v p n : Row) : ref36_Preference.v (withPods v (othersOf v p)) p n = ref36_Preference.v v p n := by
  have e2 : ∀ v, ref36_Preference.v v p n = ref36_clamp.v (walk (ref36_Preference.p9 v p n) ref36_Preference.z9 (rSl p 20) 0 (walk (ref36_Preference.p3 n) ref36_Preference.z3 (rSl p 19) 0 0)) := fun v => by kernel_rfl
  rw [e2, e2 v]
  congr 1
  refine walk_congr (fun i t x _ => ?_) (fun _ => rfl)
  have n2 : ∀ v, ref36_near.v (et 58 v) (et 40 p) (et 46 n) (et 65 t) = ref36_near.v v p n t := fun v => by kernel_rfl
  simp only [ref36_Preference.p9, n2, refNear, hereW]
theorem freeWalk (v p : Row) : law36_AffinityFree.w6 (rSl v 1) (et 40 p) [] = othersOf v p := by
  show walk (law36_AffinityFree.p6 (et 40 p)) law36_AffinityFree.z6 (rSl v 1) 0 [] = _
  rw [walk_gather (fun q => bif !sEq (ref13_KeyOf.v q) (ref13_KeyOf.v p) then some (et 40 q) else none)]
  · rfl
  · intro i q x _
    have e : law36_AffinityFree.p6 (et 40 p) i q x = (bif (bNot (sEq (ref13_KeyOf.v q) (ref13_KeyOf.v p))) then .inl (rCat x [(et 40 q)]) else .inl x) := by kernel_rfl
    rw [e]
    cases sEq (ref13_KeyOf.v q) (ref13_KeyOf.v p) <;> rfl
theorem noWalk (r : Rows) : law36_AffinityFree.w15 (rLen r) r = r.map noTerms := by
  show walk law36_AffinityFree.p15 law36_AffinityFree.z15 (nRows (rLen r)) 0 r = _
  rw [walk_map noTerms (fun i x _ _ => by kernel_rfl)]
  rfl
theorem take_all (r : Rows) (n : Int) (h : rLen r = n) : rTake r n = r := by
  unfold rTake
  exact List.take_of_length_le (by unfold rLen at h; omega)
theorem gathered_false (v p : Row) : (gathered v p (fun _ _ => false)).any id = false := by
  rw [List.any_eq_false]
  intro x hx
  unfold gathered at hx
  obtain ⟨q, _, hq⟩ := List.mem_filterMap.1 hx
  cases hc : counts p q with
  | false => rw [hc] at hq; cases hq
  | true =>
    rw [hc] at hq
    cases hn : nodeOf v q with
    | none => rw [hn] at hq; cases hq
    | some m => rw [hn] at hq; injection hq with hq; subst hq; simp
theorem freeFits (v p n : Row) (r : Rows) : ref36_PodFits.v (withPods v (r.map noTerms)) (noTerms p) n = 0 := by
  rw [podZero]
  refine ⟨?_, ?_⟩
  · unfold againstB
    rw [gathered_congr (g' := fun _ _ => false)]
    · exact gathered_false _ _
    · intro q m hq _
      rw [pods_with] at hq
      obtain ⟨q', _, rfl⟩ := List.mem_map.1 hq
      have : rSl (noTerms q') 20 = [] := by kernel_rfl
      rw [this]; rfl
  · have : rSl (noTerms p) 20 = [] := by kernel_rfl
    rw [this]; rfl
theorem affinityFreeV (v p n : Row) : law36_AffinityFree.v v p n = true := by
  have a1 : affinity_PodFits.v (et 58 v) (et 40 p) (et 46 n) = affinity_PodFits.v v p n := by kernel_rfl
  have a2 : ∀ r, affinity_PodFits.v (withPods v r) (et 40 p) (et 46 n) = affinity_PodFits.v (withPods v r) p n := fun r => by kernel_rfl
  have a3 : affinity_Preference.v (et 58 v) (et 40 p) (et 46 n) = affinity_Preference.v v p n := by kernel_rfl
  have a4 : ∀ r, affinity_Preference.v (withPods v r) (et 40 p) (et 46 n) = affinity_Preference.v (withPods v r) p n := fun r => by kernel_rfl
  have a5 : ∀ r, affinity_PodFits.v (withPods v r) (noTerms p) (et 46 n) = affinity_PodFits.v (withPods v r) (noTerms p) n := fun r => by kernel_rfl
  unfold law36_AffinityFree.v
  simp only []
  generalize (bIte (bIte (bNot (law36_SmallView.v _)) true _) true _) = b
  cases b with
  | true => rw [livesV]; rfl
  | false =>
    show (let r4 := law36_AffinityFree.w6 (rSl v 1) (et 40 p) []; let r5 := affinity_PodFits.v (et 58 v) (et 40 p) (et 46 n); let r6 := affinity_PodFits.v (withPods v r4) (et 40 p) (et 46 n); let r7 := bif (bNot (bNot (iEq r5 r6))) then (affinity_Preference.v (et 58 v) (et 40 p) (et 46 n)) else default; let r8 := bif (bNot (bNot (iEq r5 r6))) then (affinity_Preference.v (withPods v r4) (et 40 p) (et 46 n)) else default; bif (bIte (bNot (iEq r5 r6)) true (bNot (iEq r7 r8))) then false else let r9 := law36_AffinityFree.w15 (rLen r4) r4; let r10 := affinity_PodFits.v (withPods v (rTake r9 (rLen r4))) (noTerms p) (et 46 n); let r11 := bif (iEq r10 0) then law36_lives.v else default; bIte (iEq r10 0) r11 false) = true
    simp only [a1, a2, a3, a4, a5, freeWalk, noWalk, podFitsV, preferenceV, podFitsW, preferenceW, livesV, iEq_refl]
    rw [take_all _ (rLen (othersOf v p)) (by unfold rLen; rw [List.length_map]), freeFits]
    rfl
theorem law36_AffinityFree.true_ (v p n : Row) (hv : Br v) (hp : Br p) (hn : Br n) : D (fun k => (law36_AffinityFree.f k v p n).eval) (fun u => u = true) := (law36_AffinityFree.val v p n hv hp hn).true_ (affinityFreeV v p n)
end
end Go.Proofs.Ytcfaaeipgmokfaa.Ev
