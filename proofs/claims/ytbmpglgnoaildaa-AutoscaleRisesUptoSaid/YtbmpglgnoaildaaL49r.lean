/- The plain laws of autoscale: more samples, more replicas. Conditions: stated at each. -/
import Derived.Test.YtbmpglgnoaildaaL49
namespace Go.Proofs.Ytbmpglgnoaildaa.Ev
open Go Go.RowKit
set_option linter.unusedVariables false
set_option linter.unusedSimpArgs false
set_option maxRecDepth 100000
noncomputable section
theorem walk_map_congr {X R : Type} (g : Row → Row) {p : Int → Row → X → X ⊕ R} {z : X → R} (h : ∀ i q x, p i q x = p i (g q) x) : ∀ {es : Rows} {i : Int} {x : X}, walk p z es i x = walk p z (es.map g) i x
  | [], i, x => rfl
  | q :: es, i, x => by
    simp only [walk, List.map_cons]
    rw [h i q x]
    cases p i (g q) x with
    | inl y => exact walk_map_congr g h
    | inr r => rfl
/-- Two walks over the same rows that stay in a relation, with the place. -/
theorem walk_ind2 {X Y R S : Type} (N : Int) {p : Int → Row → X → X ⊕ R} {p' : Int → Row → Y → Y ⊕ S} {z : X → R} {z' : Y → S} (I : Int → X → Y → Prop) (Q : R → S → Prop)
    (hs : ∀ i q x y, i < N → I i x y → ∃ x' y', p i q x = .inl x' ∧ p' i q y = .inl y' ∧ I (i + 1) x' y') (hz : ∀ x y, I N x y → Q (z x) (z' y)) : ∀ {es : Rows} {i : Int} {x : X} {y : Y}, i + rLen es = N → I i x y → Q (walk p z es i x) (walk p' z' es i y)
  | [], i, x, y, hN, h => by
    have : i = N := by unfold rLen at hN; simp at hN; exact hN
    subst this; exact hz x y h
  | q :: es, i, x, y, hN, h => by
    have hl : rLen (q :: es) = rLen es + 1 := by unfold rLen; simp
    have h0 : 0 ≤ rLen es := by unfold rLen; omega
    simp only [walk]
    obtain ⟨x', y', e1, e2, h'⟩ := hs i q x y (by omega) h
    rw [e1, e2]
    exact walk_ind2 N I Q hs hz (by omega) h'
abbrev Idx := slices_IndexFunc_api_Sample_api_Sample_c39.v
def gS (q : Row) : Row := [.str (rStr q 0), .str (rStr q 1)]
theorem idx_map (es : Rows) (c d : Row) : Idx es c d = Idx (es.map gS) c d := by
  show Sum.elim (fun r0 => r0) (fun r1 => (-1)) (walk slices_IndexFunc_api_Sample_api_Sample_c39.p2 slices_IndexFunc_api_Sample_api_Sample_c39.z2 es 0 _) = Sum.elim (fun r0 => r0) (fun r1 => (-1)) (walk slices_IndexFunc_api_Sample_api_Sample_c39.p2 slices_IndexFunc_api_Sample_api_Sample_c39.z2 (es.map gS) 0 _)
  rw [walk_map_congr gS (fun i q x => by kernel_rfl)]
theorem idx_set (es : Rows) (j : Int) (row : Row) (hj : 0 ≤ j ∧ j < rLen es) (h : gS row = gS (rAt es j)) (c d : Row) : Idx (rSet es j row) c d = Idx es c d := by
  rw [idx_map, idx_map es]
  congr 1
  unfold rSet
  rw [List.map_set, h]
  apply List.ext_getElem?
  intro m
  rw [List.getElem?_set]
  have hlt : j.toNat < es.length := by have := hj.2; unfold rLen at this; omega
  by_cases e : j.toNat = m
  · subst e
    rw [if_pos rfl, if_pos (by simpa using hlt), List.getElem?_map]
    unfold rAt
    rw [List.getD_eq_getElem?_getD, List.getElem?_eq_getElem hlt]; rfl
  · rw [if_neg e]
/-- One sample more or equal: the same pods, a sum that is not less. -/
theorem measureRel (p l k : Rows) (s : ByteArray) (hidx : ∀ c d, Idx k c d = Idx l c d) (hval : ∀ j, autoscale_clamp.v (rInt (rAt l j) 2) 0 1000000000000000 ≤ autoscale_clamp.v (rInt (rAt k j) 2) 0 1000000000000000) (hn : rLen p ≤ 20) :
    (fun (r r' : Int × Int × Int) => r'.1 = r.1 ∧ r'.2.2 = r.2.2 ∧ r.2.1 ≤ r'.2.1) (autoscale_measure.v p l s) (autoscale_measure.v p k s) := by
  show (fun (r r' : Int × Int × Int) => r'.1 = r.1 ∧ r'.2.2 = r.2.2 ∧ r.2.1 ≤ r'.2.1) (walk (autoscale_measure.p2 l) autoscale_measure.z2 p 0 ([.str s], 0, 0, 0)) (walk (autoscale_measure.p2 k) autoscale_measure.z2 p 0 ([.str s], 0, 0, 0))
  refine walk_ind2 (rLen p) (fun (i : Int) (x y : Row × Int × Int × Int) => x.1 = y.1 ∧ x.2.1 = y.2.1 ∧ x.2.2.2 = y.2.2.2 ∧ x.2.2.1 ≤ y.2.2.1 ∧ (0 ≤ x.2.2.1 ∧ 0 ≤ i ∧ y.2.2.1 ≤ i * 1000000000000000)) (fun (r r' : Int × Int × Int) => r'.1 = r.1 ∧ r'.2.2 = r.2.2 ∧ r.2.1 ≤ r'.2.1) (fun i q x y hi h => ?_) (fun x y h => ⟨h.2.1.symm, h.2.2.1.symm, h.2.2.2.1⟩) (by omega) ⟨rfl, rfl, rfl, Int.le_refl _, Int.le_refl _, Int.le_refl _, by simp⟩
  obtain ⟨x1, x2, x3, x4⟩ := x
  obtain ⟨y1, y2, y3, y4⟩ := y
  obtain ⟨e1, e2, e4, h3, h5, h6, h7⟩ := h
  simp only at e1 e2 e4 h3 h5 h7
  subst e1; subst e2; subst e4
  unfold autoscale_measure.p2
  dsimp only
  generalize (bIte (bNot (pod_Active.v _)) true (bNot (rBool q 24))) = c
  cases c with
  | true => exact ⟨_, _, rfl, rfl, rfl, rfl, rfl, h3, h5, by omega, by show y3 ≤ (i + 1) * 1000000000000000; omega⟩
  | false =>
    generalize meta_KeyOf.v _ = key
    have hi' := hidx [.str key] [.str (rStr x1 0)]
    have hi' : slices_IndexFunc_api_Sample_api_Sample_c39.v k [.str key] [.str (rStr x1 0)] = slices_IndexFunc_api_Sample_api_Sample_c39.v l [.str key] [.str (rStr x1 0)] := hi'
    rw [hi']
    generalize slices_IndexFunc_api_Sample_api_Sample_c39.v l [.str key] [.str (rStr x1 0)] = j
    cases iLt j 0 with
    | true => exact ⟨_, _, rfl, rfl, rfl, rfl, rfl, h3, h5, by omega, by show y3 ≤ (i + 1) * 1000000000000000; omega⟩
    | false =>
      have hv := hval j
      have hc1 : 0 ≤ autoscale_clamp.v (rInt (rAt l j) 2) 0 1000000000000000 ∧ autoscale_clamp.v (rInt (rAt l j) 2) 0 1000000000000000 ≤ 1000000000000000 := clamp_in _ (by decide)
      have hc2 : 0 ≤ autoscale_clamp.v (rInt (rAt k j) 2) 0 1000000000000000 ∧ autoscale_clamp.v (rInt (rAt k j) 2) 0 1000000000000000 ≤ 1000000000000000 := clamp_in _ (by decide)
      generalize autoscale_clamp.v (rInt (rAt l j) 2) 0 1000000000000000 = u at *
      generalize autoscale_clamp.v (rInt (rAt k j) 2) 0 1000000000000000 = w at *
      have a1 : iAdd .i64 x3 u = x3 + u := iAdd_in (by omega) (by omega)
      have a2 : iAdd .i64 y3 w = y3 + w := iAdd_in (by omega) (by omega)
      refine ⟨_, _, rfl, rfl, rfl, rfl, rfl, ?_, ?_, by omega, ?_⟩
      · show iAdd .i64 x3 u ≤ iAdd .i64 y3 w
        rw [a1, a2]; omega
      · show 0 ≤ iAdd .i64 x3 u
        rw [a1]; omega
      · show iAdd .i64 y3 w ≤ (i + 1) * 1000000000000000
        rw [a2]; omega
/-- What a metric calls for, where no pod lacks a sample. -/
def fmV (t A r s : Int) : Int := bif autoscale_near.v s A t then r else iQuo .i64 (iSub .i64 (iAdd .i64 (iMul .i64 r s) A) 1) A
theorem fmE (a m : Row) (r : Int) (p l : Rows) (h0 : (autoscale_measure.v p l (rStr m 0)).2.2 = 0) (hT : 1 ≤ rInt m 1 ∧ rInt m 1 ≤ 1000000000000000) (hn : rLen p ≤ 20) :
    autoscale_forMetric.v a m r p l = bif iEq (autoscale_measure.v p l (rStr m 0)).1 0 then r else fmV (autoscale_clamp.v (rInt a 18) 0 100) ((autoscale_measure.v p l (rStr m 0)).1 * rInt m 1) r (autoscale_measure.v p l (rStr m 0)).2.1 := by
  obtain ⟨b1, b2, b3, b4, b5⟩ := autoscale_measure.bounds p l (rStr m 0) hn
  unfold autoscale_forMetric.v
  dsimp only
  generalize autoscale_measure.v p l (rStr m 0) = x at *
  obtain ⟨k, s, z⟩ := x
  simp only at h0 b1 b2 b3 b4 b5
  subst h0
  have m1 : k * rInt m 1 ≤ 20 * 1000000000000000 := Int.le_trans (Int.mul_le_mul_of_nonneg_right (by omega) (by omega)) (Int.mul_le_mul_of_nonneg_left hT.2 (by omega))
  have m0 : 0 ≤ k * rInt m 1 := Int.mul_nonneg b1 (by omega)
  have e1 : iMul .i64 k (rInt m 1) = k * rInt m 1 := iMul_in (by omega) (by omega)
  have e2 : iMul .i64 0 (rInt m 1) = 0 := by rw [iMul_in (by omega) (by omega)]; omega
  have e3 : iAdd .i64 (k * rInt m 1) 0 = k * rInt m 1 := by rw [iAdd_in (by omega) (by omega)]; omega
  have e4 : iAdd .i64 s 0 = s := by rw [iAdd_in (by omega) (by omega)]; omega
  show (bif (bIte (iEq k 0) true (bif (bNot (iEq k 0)) then autoscale_near.v s (iMul .i64 k (rInt m 1)) (autoscale_clamp.v (rInt a 18) 0 100) else default)) then r else _) = bif iEq k 0 then r else fmV _ _ r s
  dsimp only
  rw [e1, e2, e3, e4]
  generalize k * rInt m 1 = A
  generalize autoscale_clamp.v (rInt a 18) 0 100 = t
  cases iEq k 0 with
  | true => rfl
  | false =>
    unfold fmV
    cases autoscale_near.v s A t with
    | true => rfl
    | false => cases iLt A s <;> rfl
theorem fmMono (t A r s s' : Int) (ht : 0 ≤ t ∧ t ≤ 100) (hA : 1 ≤ A ∧ A ≤ 20000000000000000) (hr : 1 ≤ r ∧ r ≤ 40) (h0 : 0 ≤ s) (h : s ≤ s') (h1 : s' ≤ 20000000000000000) : fmV t A r s ≤ fmV t A r s' := by
  have near : ∀ x, 0 ≤ x → x ≤ 20000000000000000 → autoscale_near.v x A t = decide (100 * iMax (x - A) (A - x) ≤ t * A) := by
    intro x x0 x1
    have htA : 0 ≤ t * A := Int.mul_nonneg ht.1 (by omega)
    have htA2 : t * A ≤ 100 * 20000000000000000 := Int.le_trans (Int.mul_le_mul_of_nonneg_right ht.2 (by omega)) (Int.mul_le_mul_of_nonneg_left hA.2 (by decide))
    have hm : 0 ≤ iMax (x - A) (A - x) ∧ iMax (x - A) (A - x) ≤ 20000000000000000 := by unfold iMax; split <;> omega
    unfold autoscale_near.v
    rw [iSub_in (by omega) (by omega), iSub_in (by omega) (by omega), iMul_in (by omega) (by omega), iMul_in (by omega) (by omega)]
    rfl
  have quo : ∀ x, 0 ≤ x → x ≤ 20000000000000000 → iQuo .i64 (iSub .i64 (iAdd .i64 (iMul .i64 r x) A) 1) A = (r * x + A - 1) / A := by
    intro x x0 x1
    have hx0 : 0 ≤ r * x := Int.mul_nonneg (by omega) x0
    have hx1 : r * x ≤ 40 * 20000000000000000 := Int.le_trans (Int.mul_le_mul_of_nonneg_right hr.2 x0) (Int.mul_le_mul_of_nonneg_left x1 (by decide))
    rw [iMul_in (by omega) (by omega), iAdd_in (by omega) (by omega), iSub_in (by omega) (by omega)]
    have hd : (r * x + A - 1).tdiv A = (r * x + A - 1) / A := Int.tdiv_eq_ediv_of_nonneg (by omega)
    have h2 : 0 ≤ (r * x + A - 1) / A := Int.ediv_nonneg (by omega) (by omega)
    have h3 : (r * x + A - 1) / A ≤ r * x + A - 1 := Int.ediv_le_self _ (by omega)
    unfold iQuo
    rw [hd]
    exact IntWalk.i64_in _ (by omega)
  unfold fmV
  rw [near s h0 (by omega), near s' (by omega) h1, quo s h0 (by omega), quo s' (by omega) h1]
  have mono : r * s ≤ r * s' := Int.mul_le_mul_of_nonneg_left h (by omega)
  by_cases c1 : 100 * iMax (s - A) (A - s) ≤ t * A <;> by_cases c2 : 100 * iMax (s' - A) (A - s') ≤ t * A
  · rw [decide_eq_true c1, decide_eq_true c2]; exact Int.le_refl _
  · rw [decide_eq_true c1, decide_eq_false c2]
    show r ≤ (r * s' + A - 1) / A
    have hge : A ≤ s' := by
      by_cases hh : A ≤ s'
      · exact hh
      · exfalso
        have g1 : A - s ≤ iMax (s - A) (A - s) := iMax_ge_r _ _
        have g2 : iMax (s' - A) (A - s') = A - s' := by unfold iMax; split <;> omega
        rw [g2] at c2; omega
    have := Int.mul_le_mul_of_nonneg_left hge (show 0 ≤ r by omega)
    exact (Int.le_ediv_iff_mul_le (by omega)).2 (by omega)
  · rw [decide_eq_false c1, decide_eq_true c2]
    show (r * s + A - 1) / A ≤ r
    have hle : s ≤ A := by
      by_cases hh : s ≤ A
      · exact hh
      · exfalso
        have g1 : s' - A ≤ iMax (s' - A) (A - s') := iMax_ge_l _ _
        have g2 : iMax (s - A) (A - s) = s - A := by unfold iMax; split <;> omega
        rw [g2] at c1; omega
    have := Int.mul_le_mul_of_nonneg_left hle (show 0 ≤ r by omega)
    have h9 : (r + 1) * A = r * A + A := by rw [Int.add_mul]; omega
    have : (r * s + A - 1) / A < r + 1 := Int.ediv_lt_of_lt_mul (by omega) (by omega)
    omega
  · rw [decide_eq_false c1, decide_eq_false c2]
    exact Int.ediv_le_ediv (by omega) (by omega)
def isOf (key s : ByteArray) (y : Row) : Bool := sEq (rStr y 0) key && sEq (rStr y 1) s
theorem bIte_and (a b : Bool) : bIte a b false = (a && b) := by cases a <;> rfl
theorem sampledAny (l : Rows) (q : Row) (s : ByteArray) : (ref49_Sampled.v l q s).2 = l.any (isOf (ref13_KeyOf.v q) s) := by
  show (Sum.elim (fun (r0 : Int × Bool) => (r0.1, r0.2)) (fun (r1 : Unit) => ((0 : Int), false)) (walk (ref49_Sampled.p2 s (et 57 q)) ref49_Sampled.z2 l 0 ())).2 = _
  rw [walk_find (isOf (ref13_KeyOf.v q) s) (fun y => .inl (ref49_clamp.v (rInt y 2) 0 1000000000000000, true)) (fun i y _ => by
    have e : ref13_KeyOf.v (et 27 (et 57 q)) = ref13_KeyOf.v q := by kernel_rfl
    unfold ref49_Sampled.p2
    dsimp only
    rw [e, bIte_and]; rfl)]
  cases hf : l.find? (isOf (ref13_KeyOf.v q) s) with
  | none =>
    have := List.find?_eq_none.1 hf
    show false = _
    symm
    rw [List.any_eq_false]
    exact this
  | some y =>
    show true = _
    symm
    rw [List.any_eq_true]
    exact ⟨y, List.mem_of_find?_eq_some hf, List.find?_some hf⟩
theorem idxSome (key s : ByteArray) : ∀ (es : Rows) (i : Int), es.any (isOf key s) = true → ∃ j, walk slices_IndexFunc_api_Sample_api_Sample_c39.p2 slices_IndexFunc_api_Sample_api_Sample_c39.z2 es i ([.str key], [.str s]) = .inl j ∧ i ≤ j
  | [], i, h => by cases h
  | y :: es, i, h => by
    have e : slices_IndexFunc_api_Sample_api_Sample_c39.p2 i y ([.str key], [.str s]) = (bif bIte (sEq (rStr y 0) key) (sEq (rStr y 1) s) false then .inr (.inl i) else .inl ([.str key], [.str s])) := by kernel_rfl
    simp only [walk]
    rw [e, bIte_and]
    rw [List.any_cons] at h
    cases hc : isOf key s y with
    | true =>
      unfold isOf at hc
      rw [hc]; exact ⟨i, rfl, Int.le_refl _⟩
    | false =>
      rw [hc] at h
      unfold isOf at hc
      rw [hc]
      obtain ⟨j, h1, h2⟩ := idxSome key s es (i + 1) (by simpa using h)
      exact ⟨j, h1, by omega⟩
theorem idx_ge (l : Rows) (key s : ByteArray) (h : l.any (isOf key s) = true) : iLt (slices_IndexFunc_api_Sample_api_Sample_c39.v l [.str key] [.str s]) 0 = false := by
  obtain ⟨j, h1, h2⟩ := idxSome key s l 0 h
  have e : slices_IndexFunc_api_Sample_api_Sample_c39.v l [.str key] [.str s] = Sum.elim (fun r0 => r0) (fun r1 => (-1)) (walk slices_IndexFunc_api_Sample_api_Sample_c39.p2 slices_IndexFunc_api_Sample_api_Sample_c39.z2 l 0 ([.str key], [.str s])) := by kernel_rfl
  rw [e, h1]
  exact decide_eq_false (by show ¬ j < 0; omega)
theorem missZero (p l : Rows) (s : ByteArray) (h : ∀ q, q ∈ p → bIte (bNot (pod_Active.v (et 57 q))) true (bNot (rBool q 24)) = false → l.any (isOf (ref13_KeyOf.v q) s) = true) : (autoscale_measure.v p l s).2.2 = 0 := by
  show (walk (autoscale_measure.p2 l) autoscale_measure.z2 p 0 ([.str s], 0, 0, 0)).2.2 = 0
  refine walk_inv (fun (x : Row × Int × Int × Int) => x.1 = [.str s] ∧ x.2.2.2 = 0) (fun (r : Int × Int × Int) => r.2.2 = 0) (fun i q x hq hx => ?_) (fun x hx => hx.2) ⟨rfl, rfl⟩
  obtain ⟨x1, x2, x3, x4⟩ := x
  obtain ⟨e1, e2⟩ := hx
  simp only at e1 e2
  subst e1; subst e2
  have hq' := h q hq
  unfold autoscale_measure.p2
  dsimp only
  cases hc : bIte (bNot (pod_Active.v (et 57 q))) true (bNot (rBool q 24)) with
  | true => exact Or.inl ⟨_, rfl, rfl, rfl⟩
  | false =>
    have hk : meta_KeyOf.v (et 27 q) = ref13_KeyOf.v q := by kernel_rfl
    have hi := idx_ge l (ref13_KeyOf.v q) s (hq' hc)
    rw [hk]
    have e3 : rStr [V.str s] 0 = s := rfl
    rw [e3, hi]
    exact Or.inl ⟨_, rfl, rfl, rfl⟩
theorem clampMono {x y lo hi : Int} (h : x ≤ y) : iMin (iMax x lo) hi ≤ iMin (iMax y lo) hi := by
  unfold iMin iMax; split <;> split <;> (try split) <;> (try split) <;> omega
theorem desiredMono (a : Row) (r : Int) (p l k : Rows) (hr : 1 ≤ r ∧ r ≤ 40) (hn : rLen p ≤ 20) (hidx : ∀ c d, Idx k c d = Idx l c d)
    (hval : ∀ j, autoscale_clamp.v (rInt (rAt l j) 2) 0 1000000000000000 ≤ autoscale_clamp.v (rInt (rAt k j) 2) 0 1000000000000000) (hmiss : ∀ m, m ∈ rSl a 17 → (autoscale_measure.v p l (rStr m 0)).2.2 = 0) :
    autoscale_Desired.v a r p l ≤ autoscale_Desired.v a r p k := by
  unfold autoscale_Desired.v
  dsimp only
  have e1 : autoscale_clamp.v r 0 40 = r := clamp_id ⟨by omega, hr.2⟩
  have e2 : iEq r 0 = false := by
    cases hq : iEq r 0 with
    | false => rfl
    | true => have := iEq_iff.1 hq; omega
  rw [e1, e2]
  have hw : (fun (x y : Int × Bool) => x.1 ≤ y.1 ∧ x.2 = y.2) (autoscale_Desired.w6 p l r (rSl a 17) (et 33 a) (0, false)) (autoscale_Desired.w6 p k r (rSl a 17) (et 33 a) (0, false)) := by
    show (fun (x y : Int × Bool) => x.1 ≤ y.1 ∧ x.2 = y.2) (walk (autoscale_Desired.p6 p l r (et 33 a)) autoscale_Desired.z6 (rSl a 17) 0 (0, false)) (walk (autoscale_Desired.p6 p k r (et 33 a)) autoscale_Desired.z6 (rSl a 17) 0 (0, false))
    refine walk_rel (fun (x y : Int × Bool) => x.1 ≤ y.1 ∧ x.2 = y.2) (fun (x y : Int × Bool) => x.1 ≤ y.1 ∧ x.2 = y.2) (fun i j m x y hm hxy => ?_) (fun x y h => h) ⟨Int.le_refl _, rfl⟩
    obtain ⟨x1, x2⟩ := x
    obtain ⟨y1, y2⟩ := y
    obtain ⟨h1, h2⟩ := hxy
    simp only at h1 h2
    subst h2
    unfold autoscale_Desired.p6
    cases hc : bIte (iLe 1 (rInt m 1)) (iLe (rInt m 1) 1000000000000000) false with
    | false => exact Or.inl ⟨_, _, rfl, rfl, h1, rfl⟩
    | true =>
      refine Or.inl ⟨_, _, rfl, rfl, ?_, rfl⟩
      have hT := metric_T (and_l hc) (and_r hc)
      have es : rStr (et 59 m) 0 = rStr m 0 := by kernel_rfl
      have hz : (autoscale_measure.v p l (rStr (et 59 m) 0)).2.2 = 0 := by rw [es]; exact hmiss m hm
      obtain ⟨k1, k2, k3⟩ := measureRel p l k (rStr (et 59 m) 0) hidx hval hn
      have hz' : (autoscale_measure.v p k (rStr (et 59 m) 0)).2.2 = 0 := by rw [k2]; exact hz
      obtain ⟨b1, b2, b3, b4, b5⟩ := autoscale_measure.bounds p l (rStr (et 59 m) 0) hn
      obtain ⟨c1, c2, c3, c4, c5⟩ := autoscale_measure.bounds p k (rStr (et 59 m) 0) hn
      have hle : autoscale_forMetric.v (et 33 (et 33 a)) (et 59 m) r p l ≤ autoscale_forMetric.v (et 33 (et 33 a)) (et 59 m) r p k := by
        rw [fmE _ _ r p l hz hT hn, fmE _ _ r p k hz' hT hn, k1]
        cases hk : iEq (autoscale_measure.v p l (rStr (et 59 m) 0)).1 0 with
        | true => exact Int.le_refl _
        | false =>
          have hk0 : (autoscale_measure.v p l (rStr (et 59 m) 0)).1 ≠ 0 := by simpa [iEq] using hk
          have m1 : (autoscale_measure.v p l (rStr (et 59 m) 0)).1 * rInt (et 59 m) 1 ≤ 20 * 1000000000000000 := Int.le_trans (Int.mul_le_mul_of_nonneg_right (by omega) (by omega)) (Int.mul_le_mul_of_nonneg_left hT.2 (by omega))
          have m2 : 1 * 1 ≤ (autoscale_measure.v p l (rStr (et 59 m) 0)).1 * rInt (et 59 m) 1 := Int.mul_le_mul (by omega) hT.1 (by omega) (by omega)
          exact fmMono _ _ r _ _ (clamp_in _ (by decide)) ⟨by omega, by omega⟩ hr b4 k3 (by omega)
      show iMax x1 _ ≤ iMax y1 _
      have hle : autoscale_forMetric.v (et 33 (et 33 a)) (et 59 m) r p l ≤ autoscale_forMetric.v (et 33 (et 33 a)) (et 59 m) r p k := hle
      generalize autoscale_forMetric.v (et 33 (et 33 a)) (et 59 m) r p l = u at *
      generalize autoscale_forMetric.v (et 33 (et 33 a)) (et 59 m) r p k = w at *
      unfold iMax
      split <;> split <;> omega
  generalize autoscale_Desired.w6 p l r (rSl a 17) (et 33 a) (0, false) = x at *
  generalize autoscale_Desired.w6 p k r (rSl a 17) (et 33 a) (0, false) = y at *
  obtain ⟨x1, x2⟩ := x
  obtain ⟨y1, y2⟩ := y
  obtain ⟨h1, h2⟩ := hw
  simp only at h1 h2
  subst h2
  cases x2 with
  | false => exact Int.le_refl _
  | true => exact clampMono h1
theorem lives49 : law49_lives.v = true := by kernel_rfl
def lacks (l : Rows) (c m : Row) : Bool := bIte (bIte (bNot (ref49_Sampled.v l (et 57 c) (rStr m 0)).2) (bif (bNot (ref49_Sampled.v l (et 57 c) (rStr m 0)).2) then (ref33_Active.v (et 57 c)) else default) false) (rBool c 24) false
theorem w7V (l es : Rows) (c : Row) : law49_AutoscaleRises.w7 l es c = bif es.any (lacks l c) then .inl true else .inr () := by
  show walk (law49_AutoscaleRises.p7 l c) law49_AutoscaleRises.z7 es 0 () = _
  rw [walk_any (lacks l c) (Sum.inl true) (fun i q _ => by
    unfold law49_AutoscaleRises.p7
    dsimp only
    rw [lives49]; rfl)]
  rfl
theorem w4V (l p : Rows) (a : Row) : law49_AutoscaleRises.w4 l p a = bif p.any (fun q => (rSl a 17).any (lacks l (et 57 q))) then .inl true else .inr () := by
  show walk (law49_AutoscaleRises.p4 l a) law49_AutoscaleRises.z4 p 0 () = _
  rw [walk_any (fun q => (rSl a 17).any (lacks l (et 57 q))) (Sum.inl true) (fun i q _ => by
    unfold law49_AutoscaleRises.p4
    rw [w7V]
    cases (rSl a 17).any (lacks l (et 57 q)) <;> rfl)]
  rfl
theorem desiredMono2 (a : Row) (r : Int) (p l k : Rows) (hn : rLen p ≤ 20) (hidx : ∀ c d, Idx k c d = Idx l c d)
    (hval : ∀ j, autoscale_clamp.v (rInt (rAt l j) 2) 0 1000000000000000 ≤ autoscale_clamp.v (rInt (rAt k j) 2) 0 1000000000000000) (hmiss : ∀ m, m ∈ rSl a 17 → (autoscale_measure.v p l (rStr m 0)).2.2 = 0) :
    autoscale_Desired.v a r p l ≤ autoscale_Desired.v a r p k := by
  have hc : 0 ≤ autoscale_clamp.v r 0 40 ∧ autoscale_clamp.v r 0 40 ≤ 40 := clamp_in r (by decide)
  have hi : autoscale_clamp.v (autoscale_clamp.v r 0 40) 0 40 = autoscale_clamp.v r 0 40 := clamp_id hc
  have e : ∀ l, autoscale_Desired.v a r p l = autoscale_Desired.v a (autoscale_clamp.v r 0 40) p l := by
    intro l
    unfold autoscale_Desired.v
    dsimp only
    rw [hi]
  rw [e, e k]
  by_cases h0 : autoscale_clamp.v r 0 40 = 0
  · rw [h0]
    have z : ∀ l, autoscale_Desired.v a 0 p l = 0 := fun l => by
      unfold autoscale_Desired.v
      rfl
    rw [z, z]; exact Int.le_refl _
  · exact desiredMono a _ p l k ⟨by omega, hc.2⟩ hn hidx hval hmiss
theorem autoscaleRisesV (a : Row) (r : Int) (p l : Rows) (t m0 : Int) (hu : 0 ≤ t ∧ t ≤ 255) : law49_AutoscaleRises.v a r p l t m0 = true := by
  unfold law49_AutoscaleRises.v
  dsimp only
  rw [w4V, lives49]
  cases hs : law49_Small.v (et 33 a) p l with
  | false => rfl
  | true =>
    cases hl : iEq (rLen l) 0 with
    | true => rfl
    | false =>
      cases hm : iLt m0 0 with
      | true => rfl
      | false =>
        cases hg : p.any (fun q => (rSl (et 33 a) 17).any (lacks l (et 57 q))) with
        | true => rfl
        | false =>
          show (bif (iLt (iSub .i64 1000000000000000 (iMin m0 1000000000000000)) (rInt (rAt l (iRem (iCv .i64 t) (rLen l))) 2)) then true else _) = true
          cases hv : iLt (iSub .i64 1000000000000000 (iMin m0 1000000000000000)) (rInt (rAt l (iRem (iCv .i64 t) (rLen l))) 2) with
          | true => rfl
          | false =>
            have hin := of_decide_eq_true (rem_in hu (rl_pos l) hl)
            generalize iRem (iCv .i64 t) (rLen l) = j at *
            have hm0 : 0 ≤ m0 := Int.not_lt.1 (of_decide_eq_false hm)
            have hmm : 0 ≤ iMin m0 1000000000000000 ∧ iMin m0 1000000000000000 ≤ 1000000000000000 := by unfold iMin; split <;> omega
            have hv' := of_decide_eq_false hv
            rw [iSub_in (by omega) (by omega)] at hv'
            generalize iMin m0 1000000000000000 = m at *
            have hk : rTake (rSet l j [.str (rStr (rAt l j) 0), .str (rStr (rAt l j) 1), .int .i64 (iAdd .i64 (rInt (rAt l j) 2) m)]) (rLen l) = rSet l j [.str (rStr (rAt l j) 0), .str (rStr (rAt l j) 1), .int .i64 (iAdd .i64 (rInt (rAt l j) 2) m)] :=
              List.take_of_length_le (by show (l.set _ _).length ≤ _; rw [List.length_set]; unfold rLen; simp)
            have hle : autoscale_Desired.v (et 33 a) r p l ≤ autoscale_Desired.v (et 33 a) r p (rSet l j [.str (rStr (rAt l j) 0), .str (rStr (rAt l j) 1), .int .i64 (iAdd .i64 (rInt (rAt l j) 2) m)]) := by
              refine desiredMono2 _ r p l _ (small_pods hs) (fun c d => idx_set l j [.str (rStr (rAt l j) 0), .str (rStr (rAt l j) 1), .int .i64 (iAdd .i64 (rInt (rAt l j) 2) m)] hin rfl c d) (fun i => ?_) (fun x hx => ?_)
              · by_cases hij : j.toNat = i.toNat
                · have e1 : rAt (rSet l j [.str (rStr (rAt l j) 0), .str (rStr (rAt l j) 1), .int .i64 (iAdd .i64 (rInt (rAt l j) 2) m)]) i = [.str (rStr (rAt l j) 0), .str (rStr (rAt l j) 1), .int .i64 (iAdd .i64 (rInt (rAt l j) 2) m)] := by
                    unfold rAt rSet
                    have hlt : j.toNat < l.length := by have := hin.2; unfold rLen at this; omega
                    rw [List.getD_eq_getElem?_getD, List.getElem?_set, if_pos hij, if_pos hlt]; rfl
                  have e2 : rAt l i = rAt l j := by unfold rAt; rw [hij]
                  rw [e1, e2]
                  show autoscale_clamp.v (rInt (rAt l j) 2) 0 1000000000000000 ≤ autoscale_clamp.v (iAdd .i64 (rInt (rAt l j) 2) m) 0 1000000000000000
                  generalize rInt (rAt l j) 2 = x at *
                  by_cases hx : 0 ≤ x
                  · rw [iAdd_in (by omega) (by omega)]
                    exact clampMono (by omega)
                  · have c1 : autoscale_clamp.v x 0 1000000000000000 = 0 := by
                      show iMin (iMax x 0) 1000000000000000 = 0
                      unfold iMin iMax; split <;> split <;> omega
                    rw [c1]
                    exact (clamp_in (iAdd .i64 x m) (lo := 0) (hi := 1000000000000000) (by decide)).1
                · have e1 : rAt (rSet l j [.str (rStr (rAt l j) 0), .str (rStr (rAt l j) 1), .int .i64 (iAdd .i64 (rInt (rAt l j) 2) m)]) i = rAt l i := by
                    unfold rAt rSet
                    rw [List.getD_eq_getElem?_getD, List.getElem?_set, if_neg hij, ← List.getD_eq_getElem?_getD]
                  rw [e1]; exact Int.le_refl _
              · refine missZero p l _ (fun q hq ha => ?_)
                have h1 := List.any_eq_false.1 hg q hq
                have h2 : lacks l (et 57 q) x = false := by
                  cases hlk : lacks l (et 57 q) x with
                  | false => rfl
                  | true => exact absurd (List.any_eq_true.2 ⟨x, hx, hlk⟩) h1
                have ek : ref13_KeyOf.v (et 57 (et 57 q)) = ref13_KeyOf.v q := by kernel_rfl
                have ea : ref33_Active.v (et 57 (et 57 q)) = pod_Active.v (et 57 q) := by kernel_rfl
                have er : rBool (et 57 q) 24 = rBool q 24 := by kernel_rfl
                unfold lacks at h2
                rw [sampledAny, ek, ea, er] at h2
                cases hany : l.any (isOf (ref13_KeyOf.v q) (rStr x 0)) with
                | true => rfl
                | false =>
                  rw [hany] at h2
                  have ha1 := or_l ha
                  have ha2 := or_r ha
                  cases hp1 : pod_Active.v (et 57 q) with
                  | false => rw [hp1] at ha1; cases ha1
                  | true =>
                    cases hp2 : rBool q 24 with
                    | false => rw [hp2] at ha2; cases ha2
                    | true => rw [hp1, hp2] at h2; cases h2
            show bIte (iLe (autoscale_Desired.v (et 33 a) r p l) (autoscale_Desired.v (et 33 a) r p (rTake (rSet l j _) (rLen l)))) _ false = true
            rw [hk, show iLe (autoscale_Desired.v (et 33 a) r p l) (autoscale_Desired.v (et 33 a) r p (rSet l j [.str (rStr (rAt l j) 0), .str (rStr (rAt l j) 1), .int .i64 (iAdd .i64 (rInt (rAt l j) 2) m)])) = true from decide_eq_true hle]
            rfl
theorem law49_AutoscaleRises.true_ (a : Row) (r : Int) (p l : Rows) (t m : Int) (ha : Br a) (hp : Brs p) (hl : Brs l) (hu : 0 ≤ t ∧ t ≤ 255) : D (fun k => (law49_AutoscaleRises.f k a r p l t m).eval) (fun u => u = true) := (law49_AutoscaleRises.val a r p l t m ha hp hl hu).true_ (autoscaleRisesV a r p l t m hu)
theorem arg_u8 {P : Program} {W : World} {n t : Nat} (hu : P.underlying t = some (.int .u8)) (hc : ctsOf P t = [t]) {m : Int} {r : Row} (h : Opened P true W n t (Value.int .u8 m).cells.toList r) : 0 ≤ m ∧ m ≤ 255 := by
  obtain ⟨h1, h2, h3⟩ := h
  rw [show (Value.int .u8 m).cells.toList = [.int .u8 m] from rfl] at h1 h3
  match r, h1 with
  | [x], _ =>
    have h4 := h2.2 0 x t rfl (by rw [hc]; rfl)
    cases n with
    | zero => exact h4.elim
    | succ n =>
      unfold CellOk at h4
      rw [hu] at h4
      obtain ⟨m', rfl, h5⟩ := h4
      have e := rep_int_inv (h3 0 _ _ rfl rfl)
      injection e with _ e
      subst e
      have h6 : (decide ((0 : Int) ≤ m) && decide (m ≤ 255)) = true := h5
      rw [Bool.and_eq_true] at h6
      exact ⟨of_decide_eq_true h6.1, of_decide_eq_true h6.2⟩
end
end Go.Proofs.Ytbmpglgnoaildaa.Ev
