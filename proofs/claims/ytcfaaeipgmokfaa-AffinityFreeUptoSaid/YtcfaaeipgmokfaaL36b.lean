/- The plain laws of affinity, more. Conditions: stated at each. -/
import Derived.Test.YtcfaaeipgmokfaaL36
namespace Go.Proofs.Ytcfaaeipgmokfaa.Ev
open Go Go.RowKit
set_option linter.unusedVariables false
set_option linter.unusedSimpArgs false
set_option maxRecDepth 100000
noncomputable section
/-- A required term of p lets it on n. -/
def letsOn (v p n t : Row) : Bool := !rBool t 0 || (bif rBool t 1 then !hereB v p n t else (hereB v p n t || ((ref36_Domain.v n (rStr t 3)).2 && (!anyB v p t && ref03_Matches.v (rSl t 2) (rSl p 9)))))
theorem podWalk (v p n : Row) : ∀ (es : Rows) (i : Int) (y : Bool), Sum.elim (fun r1 => r1) (fun r2 => (bif r2 then 9 else 0)) (walk (ref36_PodFits.p3 v p n) ref36_PodFits.z3 es i y) = (0 : Int) ↔ y = false ∧ es.all (letsOn v p n) = true
  | [], i, y => by
    cases y
    · exact ⟨fun _ => ⟨rfl, rfl⟩, fun _ => rfl⟩
    · exact ⟨fun h => absurd (show (9 : Int) = 0 from h) (by decide), fun h => by cases h.1⟩
  | t :: es, i, y => by
    have n2 : ref36_near.v (et 58 v) (et 40 p) (et 46 n) (et 65 t) = ref36_near.v v p n t := by kernel_rfl
    have n3 : ref36_first.v (et 58 v) (et 40 p) (et 65 t) = ref36_first.v v p t := by kernel_rfl
    have n4 : ∀ s, ref36_Domain.v (et 46 n) s = ref36_Domain.v n s := fun s => by kernel_rfl
    simp only [walk, ref36_PodFits.p3, n2, n3, n4, refNear, refFirst, List.all_cons, letsOn]
    have ih := podWalk v p n es (i + 1)
    generalize hereB v p n t = H
    generalize anyB v p t = A
    generalize ref03_Matches.v (rSl t 2) (rSl p 9) = M
    generalize (ref36_Domain.v n (rStr t 3)).2 = D
    cases rBool t 0 with
    | false => exact ih y
    | true =>
      cases rBool t 1 with
      | true =>
        cases H with
        | true =>
          refine (ih _).trans ?_
          cases y <;> simp [bIte]
        | false =>
          refine (ih _).trans ?_
          cases y <;> simp [bIte]
      | false =>
        cases H with
        | true =>
          cases D <;> cases A <;> cases M <;> exact ih y
        | false =>
          cases D <;> cases A <;> cases M <;> first
            | exact ih y
            | (refine ⟨fun h => ?_, fun h => ?_⟩
               · have h : (8 : Int) = 0 := h
                 exact absurd h (by decide)
               · exact absurd h.2 (by simp))
theorem podZero (v p n : Row) : ref36_PodFits.v v p n = 0 ↔ againstB v p n = false ∧ (rSl p 20).all (letsOn v p n) = true := by
  have e2 : ref36_PodFits.v v p n = Sum.elim (fun r1 => r1) (fun r2 => (bif r2 then 9 else 0)) (walk (ref36_PodFits.p3 v p n) ref36_PodFits.z3 (rSl p 20) 0 (ref36_Against.v v p n)) := by kernel_rfl
  rw [e2, refAgainst]
  exact podWalk v p n _ _ _
-- symmetry
theorem violatedV (a b m n : Row) : law36_violated.v a b m n = (rSl a 20).any (fun t => rBool t 0 && rBool t 1 && sel t (rStr a 1) b && tog m n (rStr t 3)) := by
  have e : law36_violated.v a b m n = Sum.elim (fun r0 => r0) (fun r1 => false) (walk (law36_violated.p2 a b m n) law36_violated.z2 (rSl a 20) 0 ()) := by kernel_rfl
  rw [e, walk_any (fun t => rBool t 0 && rBool t 1 && sel t (rStr a 1) b && tog m n (rStr t 3)) (Sum.inl true) (fun i t _ => by
    have d1 : ref03_Get.v (rSl m 9) (rStr t 3) = ref36_Domain.v m (rStr t 3) := by kernel_rfl
    have d2 : ref03_Get.v (rSl n 9) (rStr t 3) = ref36_Domain.v n (rStr t 3) := by kernel_rfl
    simp only [law36_violated.p2, d1, d2, sel, tog]
    rw [sEq_symm (rStr a 1)]
    cases rBool t 0 <;> cases rBool t 1 <;> cases sEq (rStr b 1) (rStr a 1) <;> cases (ref36_Domain.v m (rStr t 3)).2 <;> cases (ref36_Domain.v n (rStr t 3)).2 <;> cases sEq (ref36_Domain.v m (rStr t 3)).1 (ref36_Domain.v n (rStr t 3)).1 <;> cases ref03_Matches.v (rSl t 2) (rSl b 9) <;> rfl)]
  cases (rSl a 20).any (fun t => rBool t 0 && rBool t 1 && sel t (rStr a 1) b && tog m n (rStr t 3)) <;> rfl
theorem gathered_mem {α : Type} {v p : Row} {g : Row → Row → α} {q m : Row} (h : q ∈ rSl v 1) (hc : counts p q = true) (hn : nodeOf v q = some m) : g q m ∈ gathered v p g := by
  unfold gathered
  refine List.mem_filterMap.2 ⟨q, h, ?_⟩
  rw [hc, hn]; rfl
theorem gathered_none {v p : Row} {g : Row → Row → Bool} (h : (gathered v p g).any id = false) {q m : Row} (hq : q ∈ rSl v 1) (hc : counts p q = true) (hn : nodeOf v q = some m) : g q m = false := by
  have := List.any_eq_false.1 h _ (gathered_mem hq hc hn)
  simpa using this
theorem symWalk (v p n : Row) (h : ref36_PodFits.v v p n = 0) : law36_AffinitySymmetry.w4 (rSl v 1) v p n = .inr () := by
  obtain ⟨hA, hT⟩ := (podZero v p n).1 h
  show walk (law36_AffinitySymmetry.p4 v p n) law36_AffinitySymmetry.z4 (rSl v 1) 0 () = _
  refine walk_inv (X := Unit) (R := Bool ⊕ Unit) (fun _ => True) (fun r => r = .inr ()) (fun i q x hq _ => Or.inl ⟨(), ?_, trivial⟩) (fun _ _ => rfl) trivial
  have e : law36_AffinitySymmetry.p4 v p n i q x = (bif (bIte (sEq (ref13_KeyOf.v q) (ref13_KeyOf.v p)) true (bIte (bNot (iEq (rInt q 23) 0)) (bNot (iEq (rInt q 23) 1)) false)) then (.inl ()) else (Sum.elim (fun r2 => (.inr (.inl r2))) (fun r3 => (.inl ())) (law36_AffinitySymmetry.w8 (rSl v 0) p n q))) := by kernel_rfl
  rw [e]
  have hc : bIte (sEq (ref13_KeyOf.v q) (ref13_KeyOf.v p)) true (bIte (bNot (iEq (rInt q 23) 0)) (bNot (iEq (rInt q 23) 1)) false) = !counts p q := by
    unfold counts
    cases sEq (ref13_KeyOf.v q) (ref13_KeyOf.v p) <;> cases iEq (rInt q 23) 0 <;> cases iEq (rInt q 23) 1 <;> rfl
  rw [hc]
  cases hcq : counts p q with
  | false => rfl
  | true =>
    have hw : law36_AffinitySymmetry.w8 (rSl v 0) p n q = .inr () := by
      show walk (law36_AffinitySymmetry.p8 p n q) law36_AffinitySymmetry.z8 (rSl v 0) 0 () = _
      have h8 : ∀ (i : Int) (m : Row), m ∈ rSl v 0 → law36_AffinitySymmetry.p8 p n q i m () = bif sEq (rStr m 2) (rStr q 13) then .inr (bif law36_violated.v p q n m || law36_violated.v q p m n then .inl false else .inr ()) else .inl () := by
        intro i m _
        have a1 : law36_violated.v (et 40 p) (et 40 q) (et 46 n) (et 46 m) = law36_violated.v p q n m := by kernel_rfl
        have a2 : law36_violated.v (et 40 q) (et 40 p) (et 46 m) (et 46 n) = law36_violated.v q p m n := by kernel_rfl
        simp only [law36_AffinitySymmetry.p8, a1, a2]
        cases sEq (rStr m 2) (rStr q 13) <;> cases law36_violated.v p q n m <;> cases law36_violated.v q p m n <;> rfl
      rw [walk_find (fun m => sEq (rStr m 2) (rStr q 13)) (fun m => bif law36_violated.v p q n m || law36_violated.v q p m n then .inl false else .inr ()) h8]
      cases hn : (rSl v 0).find? (fun m => sEq (rStr m 2) (rStr q 13)) with
      | none => rfl
      | some m =>
        have hn' : nodeOf v q = some m := hn
        have v1 : law36_violated.v p q n m = false := by
          rw [violatedV, List.any_eq_false]
          intro t ht
          have ho := List.all_eq_true.1 hT t ht
          unfold letsOn at ho
          cases h0 : rBool t 0 with
          | false => simp
          | true =>
            cases h1 : rBool t 1 with
            | false => simp
            | true =>
              rw [h0, h1] at ho
              have hh : hereB v p n t = false := by
                cases hx : hereB v p n t with
                | false => rfl
                | true => rw [hx] at ho; cases ho
              have := gathered_none hh hq hcq hn'
              simp only [Bool.true_and]
              rw [this]; simp
        have v2 : law36_violated.v q p m n = false := by
          rw [violatedV]
          have := gathered_none hA hq hcq hn'
          simp only [tog_symm m n]
          exact this
        show (bif law36_violated.v p q n m || law36_violated.v q p m n then _ else _) = _
        rw [v1, v2]; rfl
    rw [hw]; rfl
theorem affinitySymmetryV (v p n : Row) : law36_AffinitySymmetry.v v p n = true := by
  have a1 : affinity_PodFits.v (et 58 v) (et 40 p) (et 46 n) = affinity_PodFits.v v p n := by kernel_rfl
  have a2 : law36_AffinitySymmetry.w4 (rSl v 1) (et 58 v) (et 40 p) (et 46 n) = law36_AffinitySymmetry.w4 (rSl v 1) v p n := by kernel_rfl
  unfold law36_AffinitySymmetry.v
  simp only [a1, a2, podFitsV, livesV]
  generalize (bIte (bIte (bNot (law36_SmallView.v _)) true _) true _) = b
  cases b with
  | true => rfl
  | false =>
    show (bif bIte false true (bNot (iEq (ref36_PodFits.v v p n) 0)) then true else _) = true
    cases hz : iEq (ref36_PodFits.v v p n) 0 with
    | false => rfl
    | true => rw [symWalk v p n (iEq_iff.1 hz)]; rfl
theorem law36_AffinitySymmetry.true_ (v p n : Row) (hv : Br v) (hp : Br p) (hn : Br n) : D (fun k => (law36_AffinitySymmetry.f k v p n).eval) (fun u => u = true) := (law36_AffinitySymmetry.val v p n hv hp hn).true_ (affinitySymmetryV v p n)
-- terms
theorem termsWalk (p n : Row) (h : affinity_NodeFits.v (eo 35 p 13) (et 46 n) = true) : law36_AffinityTerms.w10 (rSl p 19) n = .inr () := by
  have e : affinity_NodeFits.v (eo 35 p 13) (et 46 n) = (bif (bNot (label_Matches.v (rSl p 18) (rSl n 9))) then false else (Sum.elim (fun r1 => r1) (fun r2 => true) (walk (affinity_NodeFits.p4 n) affinity_NodeFits.z4 (rSl p 19) 0 ()))) := by kernel_rfl
  let F : Row → Bool := fun t => rBool t 0 && !ref03_Matches.v (rSl t 1) (rSl n 9)
  rw [e, walk_any F (Sum.inl false) (fun i t _ => by
    simp only [affinity_NodeFits.p4, matchesV_eq, F]
    cases rBool t 0 <;> cases ref03_Matches.v (rSl t 1) (rSl n 9) <;> rfl)] at h
  show walk (law36_AffinityTerms.p10 n) law36_AffinityTerms.z10 (rSl p 19) 0 () = _
  rw [walk_any F (Sum.inl false) (fun i t _ => by
    simp only [law36_AffinityTerms.p10, F]
    cases rBool t 0 <;> cases ref03_Matches.v (rSl t 1) (rSl n 9) <;> rfl)]
  cases hF : (rSl p 19).any F with
  | false => rfl
  | true =>
    rw [hF] at h
    cases hm : bNot (label_Matches.v (rSl p 18) (rSl n 9)) <;> rw [hm] at h <;> cases h
/-- A pod with one term more. -/
def moreTerms (p t : Row) : Row := [.str (rStr p 0), .str (rStr p 1), .str (rStr p 2), .int .i64 (rInt p 3), .int .i64 (rInt p 4), .int .i64 (rInt p 5), .int .i64 (rInt p 6), .bool (rBool p 7), .int .i64 (rInt p 8), .slice 105 (rSl p 9) .open, .slice 107 (rSl p 10) .open, .slice 9 (rSl p 11) .open, .slice 109 (rSl p 12) .open, .str (rStr p 13), .int .i64 (rInt p 14), .int .i64 (rInt p 15), .int .i64 (rInt p 16), .slice 137 (rSl p 17) .open, .slice 94 (rSl p 18) .open, .slice 68 (rSl p 19) .open, .slice 65 (rCat (rCat [] (rSl p 20)) [[.bool true, .bool (rBool t 1), .slice 94 (rSl t 2) .open, .str (rStr t 3), .int .i64 (rInt t 4)]]) .open, .slice 143 (rSl p 21) .open, .slice 145 (rSl p 22) .open, .int .i64 (rInt p 23), .bool (rBool p 24), .int .i64 (rInt p 25), .int .i64 (rInt p 26), .int .i64 (rInt p 27), .slice 147 (rSl p 28) .open, .int .i64 (rInt p 29), .str (rStr p 30), .str (rStr p 31)]
theorem letsOn_more (v p n x t : Row) : letsOn v (moreTerms p x) n t = letsOn v p n t := by kernel_rfl
theorem against_more (v p n x : Row) : againstB v (moreTerms p x) n = againstB v p n := by kernel_rfl
theorem terms_more (p x : Row) : rSl (moreTerms p x) 20 = rSl p 20 ++ [[.bool true, .bool (rBool x 1), .slice 94 (rSl x 2) .open, .str (rStr x 3), .int .i64 (rInt x 4)]] := by kernel_rfl
theorem affinityTermsV (v p n x : Row) : law36_AffinityTerms.v v p n x = true := by
  have hm : ref36_PodFits.v v (moreTerms p x) n = 0 → ref36_PodFits.v v p n = 0 := by
    rw [podZero, podZero, against_more, terms_more, List.all_append]
    intro ⟨h1, h2⟩
    refine ⟨h1, ?_⟩
    rw [Bool.and_eq_true] at h2
    rw [← h2.1]
    congr 1
  have a1 : affinity_PodFits.v (et 58 v) (et 40 p) (et 46 n) = affinity_PodFits.v v p n := by kernel_rfl
  have a2 : affinity_PodFits.v (et 58 v) (moreTerms p x) (et 46 n) = affinity_PodFits.v v (moreTerms p x) n := by kernel_rfl
  have a3 : law36_AffinityTerms.w10 (rSl p 19) (et 46 n) = law36_AffinityTerms.w10 (rSl p 19) n := by kernel_rfl
  unfold law36_AffinityTerms.v
  simp only []
  generalize (bIte (bIte (bIte (bIte (bNot (law36_SmallView.v _)) true _) true _) true _) true _) = b
  cases b with
  | true => rw [livesV]; rfl
  | false =>
    show (let r5 := affinity_PodFits.v (et 58 v) (moreTerms p x) (et 46 n); let r6 := bif (iEq r5 0) then (affinity_PodFits.v (et 58 v) (et 40 p) (et 46 n)) else default; (bif (bIte (iEq r5 0) (bNot (iEq r6 0)) false) then false else (let r7 := (affinity_NodeFits.v (eo 35 p 13) (et 46 n)); (bif r7 then (Sum.elim (fun r8 => r8) (fun r9 => (let r10 := (law36_lives.v ); r10)) (law36_AffinityTerms.w10 (rSl p 19) (et 46 n))) else (let r11 := (law36_lives.v ); r11))))) = true
    simp only [a1, a2, a3, podFitsV, livesV]
    have hz : bIte (iEq (ref36_PodFits.v v (moreTerms p x) n) 0) (bNot (iEq (bif (iEq (ref36_PodFits.v v (moreTerms p x) n) 0) then ref36_PodFits.v v p n else default) 0)) false = false := by
      cases h1 : iEq (ref36_PodFits.v v (moreTerms p x) n) 0 with
      | false => rfl
      | true =>
        show bNot (iEq (ref36_PodFits.v v p n) 0) = false
        rw [iEq_iff.2 (hm (iEq_iff.1 h1))]; rfl
    rw [hz]
    cases hf : affinity_NodeFits.v (eo 35 p 13) (et 46 n) with
    | false => rfl
    | true => rw [termsWalk p n hf]; rfl
theorem law36_AffinityTerms.true_ (v p n x : Row) (hv : Br v) (hp : Br p) (hn : Br n) (hx : Br x) : D (fun k => (law36_AffinityTerms.f k v p n x).eval) (fun u => u = true) := (law36_AffinityTerms.val v p n x hv hp hn hx).true_ (affinityTermsV v p n x)
end
end Go.Proofs.Ytcfaaeipgmokfaa.Ev
