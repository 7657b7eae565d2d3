/- The plain laws of affinity. Conditions: stated at each. -/
import Derived.Test.YtilppppcafphbaaGreatWk
import Derived.Test.YtilppppcafphbaaGreatVa
namespace Go.Proofs.YtilppppcafphbaaGreat.Ev
open Go Go.RowKit
set_option linter.unusedVariables false
set_option linter.unusedSimpArgs false
set_option maxRecDepth 100000
noncomputable section
theorem getV_eq (a : Rows) (s : ByteArray) : label_Get.v a s = ref03_Get.v a s := by kernel_rfl
theorem domV_eq (a : Row) (s : ByteArray) : affinity_Domain.v a s = ref36_Domain.v a s := by kernel_rfl
theorem keyV_eq (a : Row) : meta_KeyOf.v a = ref13_KeyOf.v a := by kernel_rfl
theorem index_any (s : ByteArray) : ∀ (es : Rows) (i : Int), 0 ≤ i → iLe 0 (Sum.elim (fun r0 => r0) (fun r1 => -1) (walk (slices_Index_string_string.p2 s) slices_Index_string_string.z2 es i ())) = es.any (fun q => sEq (rStr q 0) s)
  | [], i, _ => rfl
  | q :: es, i, h => by
    simp only [walk, slices_Index_string_string.p2, List.any_cons, sEq_symm s]
    cases sEq (rStr q 0) s with
    | true => exact iLe_iff.2 h
    | false => exact index_any s es (i + 1) (by omega)
theorem among_any (es : Rows) (s : ByteArray) : ref03_among.v es s = es.any (fun q => sEq (rStr q 0) s) := by
  show Sum.elim _ _ (walk (ref03_among.p2 s) ref03_among.z2 es 0 ()) = _
  rw [walk_any (fun q => sEq (rStr q 0) s) (Sum.inl true) (fun i q _ => rfl)]
  cases es.any (fun q => sEq (rStr q 0) s) <;> rfl
theorem containsV_eq (es : Rows) (s : ByteArray) : slices_Contains_string_string.v es s = ref03_among.v es s := by
  rw [among_any]; exact index_any s es 0 (Int.le_refl _)
theorem holdsV_eq (q : Row) (l : Rows) : label_holds.v q l = ref03_holds.v q l := by
  unfold label_holds.v ref03_holds.v
  simp only [getV_eq, containsV_eq]
  generalize ref03_Get.v l (rStr q 0) = g
  generalize ref03_among.v (rSl q 2) g.1 = m
  cases iEq (rInt q 1) 1 with
  | true => rfl
  | false =>
    cases iEq (rInt q 1) 2 with
    | true => rfl
    | false =>
      cases h3 : iEq (rInt q 1) 3 with
      | false => cases iEq (rInt q 1) 4 <;> cases g.2 <;> rfl
      | true =>
        have h4 : iEq (rInt q 1) 4 = false := by
          rw [iEq_iff.1 h3]; rfl
        rw [h4]
        cases g.2 <;> rfl
theorem matchesV_eq (s l : Rows) : label_Matches.v s l = ref03_Matches.v s l := by
  show Sum.elim _ _ (walk (label_Matches.p2 l) label_Matches.z2 s 0 ()) = Sum.elim _ _ (walk (ref03_Matches.p2 l) ref03_Matches.z2 s 0 ())
  exact congrArg _ (walk_congr (fun i q x _ => by simp only [label_Matches.p2, ref03_Matches.p2, holdsV_eq]) (fun _ => rfl))
-- affinity
/-- A term of a pod in a namespace selects a pod. -/
def sel (t : Row) (ns : ByteArray) (q : Row) : Bool := sEq (rStr q 1) ns && ref03_Matches.v (rSl t 2) (rSl q 9)
def tog (a b : Row) (s : ByteArray) : Bool := (ref36_Domain.v a s).2 && (ref36_Domain.v b s).2 && sEq (ref36_Domain.v a s).1 (ref36_Domain.v b s).1
theorem selectsV (t : Row) (ns : ByteArray) (q : Row) : affinity_selects.v t ns q = sel t ns q := by
  unfold affinity_selects.v sel
  simp only [matchesV_eq]
  cases sEq (rStr q 1) ns <;> rfl
theorem togetherV (a b : Row) (s : ByteArray) : affinity_together.v a b s = tog a b s := by
  unfold affinity_together.v tog
  simp only [domV_eq]
  show bIte (bIte (ref36_Domain.v a s).2 (ref36_Domain.v b s).2 false) (sEq (ref36_Domain.v a s).1 (ref36_Domain.v b s).1) false = _
  cases (ref36_Domain.v a s).2 <;> cases (ref36_Domain.v b s).2 <;> rfl
/-- A pod that counts, and is another one. -/
def counts (p q : Row) : Bool := !sEq (ref13_KeyOf.v q) (ref13_KeyOf.v p) && (iEq (rInt q 23) 0 || iEq (rInt q 23) 1)
def nodeOf (v q : Row) : Option Row := (rSl v 0).find? (fun n => sEq (rStr n 2) (rStr q 13))
def pairOf (q n : Row) : Row := rJ [et 45 q, et 32 n, [.int .i64 (rInt n 13), .int .i64 (rInt n 14), .int .i64 (rInt n 15), .int .i64 (rInt n 16), .bool (rBool n 17), .slice 72 (rSl n 18) .open, .bool (rBool n 19), .int .i64 (rInt n 20), .bool (rBool n 21), .bool (rBool n 22), .slice 247 (rSl n 23) .open]]
def gathered {α : Type} (v p : Row) (g : Row → Row → α) : List α := (rSl v 1).filterMap (fun q => bif counts p q then (nodeOf v q).map (g q) else none)
theorem othersV (v p : Row) : affinity_others.v v p = gathered v p pairOf := by
  show walk (affinity_others.p3 v p) affinity_others.z3 (rSl v 1) 0 [] = _
  rw [walk_gather (fun q => bif counts p q then (nodeOf v q).map (pairOf q) else none)]
  · rfl
  · intro i q x _
    show (bif bIte (sEq (meta_KeyOf.v q) (meta_KeyOf.v p)) true (bIte (bNot (iEq (rInt q 23) 0)) (bNot (iEq (rInt q 23) 1)) false) then Sum.inl x else Sum.inl (affinity_others.w7 x (rSl v 0) q)) = _
    have hw : affinity_others.w7 x (rSl v 0) q = match nodeOf v q with | some n => x ++ [pairOf q n] | none => x := by
      show walk (affinity_others.p7 x q) (affinity_others.z7 x) (rSl v 0) 0 () = _
      rw [walk_find (fun n => sEq (rStr n 2) (rStr q 13)) (fun n => x ++ [pairOf q n]) (fun i n _ => rfl)]
      rfl
    rw [hw]
    simp only [counts, keyV_eq]
    cases sEq (ref13_KeyOf.v q) (ref13_KeyOf.v p) <;> cases iEq (rInt q 23) 0 <;> cases iEq (rInt q 23) 1 <;> cases nodeOf v q <;> rfl
theorem nodeOfV (v : Row) (s : ByteArray) : ref36_NodeOf.v v s = match (rSl v 0).find? (fun n => sEq (rStr n 2) s) with | some n => (et 51 n, true) | none => (ref36_NodeOf.v v s).1 |> fun r => (r, false) := by
  show Sum.elim _ _ (walk (ref36_NodeOf.p2 s) ref36_NodeOf.z2 (rSl v 0) 0 ()) = _
  rw [walk_find (fun n => sEq (rStr n 2) s) (fun n => Sum.inl (true, et 51 n)) (fun i q _ => rfl)]
  cases h : (rSl v 0).find? (fun n => sEq (rStr n 2) s) with
  | some n => rfl
  | none =>
    have : ref36_NodeOf.v v s = Sum.elim (fun r0 => (et 51 r0.2, r0.1)) (fun r1 => _) (walk (ref36_NodeOf.p2 s) ref36_NodeOf.z2 (rSl v 0) 0 ()) := rfl
    rw [this, walk_find (fun n => sEq (rStr n 2) s) (fun n => Sum.inl (true, et 51 n)) (fun i q _ => rfl), h]
    rfl
theorem boundV (v p : Row) : ref36_Bound.v v p = gathered v p (fun q _ => et 45 q) := by
  show walk (ref36_Bound.p3 v p) ref36_Bound.z3 (rSl v 1) 0 [] = _
  rw [walk_gather (fun q => bif counts p q then (nodeOf v q).map (fun _ => et 45 q) else none)]
  · rfl
  · intro i q x _
    have h2 : (ref36_NodeOf.v v (rStr q 13)).2 = (nodeOf v q).isSome := by
      rw [nodeOfV]; unfold nodeOf
      cases (rSl v 0).find? (fun n => sEq (rStr n 2) (rStr q 13)) <;> rfl
    show (let r0 := ref36_NodeOf.v v (rStr q 13); (let r1 := bif (bIte r0.2 (bIte (iEq (rInt q 23) 0) true (iEq (rInt q 23) 1)) false) then (ref13_KeyOf.v q) else default; (let r2 := bif (bIte r0.2 (bIte (iEq (rInt q 23) 0) true (iEq (rInt q 23) 1)) false) then (ref13_KeyOf.v p) else default; (bif (bIte (bIte r0.2 (bIte (iEq (rInt q 23) 0) true (iEq (rInt q 23) 1)) false) (bNot (sEq r1 r2)) false) then (Sum.inl (rCat x [et 45 q]) : Rows ⊕ Rows) else (.inl x))))) = _
    simp only [h2, counts]
    cases iEq (rInt q 23) 0 <;> cases iEq (rInt q 23) 1 <;> cases nodeOf v q <;> cases hk : sEq (ref13_KeyOf.v q) (ref13_KeyOf.v p) <;> simp [bIte, hk, bNot] <;> rfl

theorem filterMap_congr_ {α β : Type} {f g : α → Option β} : ∀ {l : List α}, (∀ x, x ∈ l → f x = g x) → l.filterMap f = l.filterMap g
  | [], _ => rfl
  | x :: l, h => by
    rw [List.filterMap_cons, List.filterMap_cons, h x (List.mem_cons_self ..), filterMap_congr_ (fun y hy => h y (List.mem_cons_of_mem _ hy))]
theorem gathered_any {α : Type} (v p : Row) (g : Row → Row → α) (F : α → Bool) : (gathered v p g).any F = (gathered v p (fun q m => F (g q m))).any id := by
  unfold gathered
  rw [List.any_filterMap, List.any_filterMap]
  congr 1
  funext q
  cases counts p q <;> cases nodeOf v q <;> rfl
theorem gathered_congr {α : Type} {v p : Row} {g g' : Row → Row → α} (h : ∀ q m, q ∈ rSl v 1 → nodeOf v q = some m → g q m = g' q m) : gathered v p g = gathered v p g' := by
  unfold gathered
  refine filterMap_congr_ (fun q hq => ?_)
  cases hn : nodeOf v q with
  | none => cases counts p q <;> rfl
  | some m => cases counts p q <;> simp [h q m hq hn]
theorem sel_t (t : Row) (ns : ByteArray) (q : Row) : sel (et 107 t) ns q = sel t ns q := by kernel_rfl
theorem sel_q (t : Row) (ns : ByteArray) (q : Row) : sel t ns (et 45 q) = sel t ns q := by kernel_rfl
theorem sel_pair (t : Row) (ns : ByteArray) (q m : Row) : sel t ns (pairOf q m) = sel t ns q := by kernel_rfl
theorem tog_1 (a b : Row) (s : ByteArray) : tog (et 51 a) b s = tog a b s := by kernel_rfl
theorem tog_2 (a b : Row) (s : ByteArray) : tog a (et 51 b) s = tog a b s := by kernel_rfl
theorem tog_pair (a q m : Row) (s : ByteArray) : tog a (eo 51 (pairOf q m) 32) s = tog a m s := by kernel_rfl
theorem tog_symm (a b : Row) (s : ByteArray) : tog a b s = tog b a s := by
  unfold tog
  rw [sEq_symm]
  cases (ref36_Domain.v a s).2 <;> cases (ref36_Domain.v b s).2 <;> rfl
theorem terms_pair (q m : Row) : rSl (pairOf q m) 20 = rSl q 20 := by kernel_rfl
theorem ns_pair (q m : Row) : rStr (pairOf q m) 1 = rStr q 1 := by kernel_rfl
/-- Near: a pod that a term selects, on a node of the same domain. -/
def hereB (v p n t : Row) : Bool := (gathered v p (fun q m => sel t (rStr p 1) q && tog n m (rStr t 3))).any id
def anyB (v p t : Row) : Bool := (gathered v p (fun q m => sel t (rStr p 1) q)).any id
def againstB (v p n : Row) : Bool := (gathered v p (fun q m => (rSl q 20).any (fun t => rBool t 0 && rBool t 1 && sel t (rStr q 1) p && tog n m (rStr t 3)))).any id
theorem fold_two (c d : Row → Bool) : ∀ (es : Rows) (x : Bool × Bool), es.foldl (fun x q => bif c q then ((x.1 || d q), true) else x) x = (x.1 || es.any (fun q => c q && d q), x.2 || es.any c)
  | [], x => by simp
  | q :: es, x => by
    rw [List.foldl_cons, fold_two c d es]
    rw [List.any_cons, List.any_cons]
    obtain ⟨a, b⟩ := x
    generalize es.any (fun q => c q && d q) = u
    generalize es.any c = w
    cases c q <;> cases d q <;> cases a <;> cases b <;> cases u <;> cases w <;> rfl
theorem nearV (v t p n : Row) : affinity_near.v t p n (affinity_others.v v p) = (hereB v p n t, anyB v p t) := by
  have h : affinity_near.w2 (affinity_others.v v p) t p n (false, false) = ((affinity_others.v v p).any (fun b => sel t (rStr p 1) b && tog n (eo 51 b 32) (rStr t 3)), (affinity_others.v v p).any (fun b => sel t (rStr p 1) b)) := by
    show walk (affinity_near.p2 t p n) affinity_near.z2 (affinity_others.v v p) 0 (false, false) = _
    rw [walk_fold (fun x b => bif sel t (rStr p 1) b then ((x.1 || tog n (eo 51 b 32) (rStr t 3)), true) else x)]
    · rw [fold_two]
      show (false || _, false || _) = _
      simp only [Bool.false_or]
    · intro i b x _
      simp only [affinity_near.p2, selectsV, togetherV, sel_t, sel_q, tog_1]
      obtain ⟨x1, x2⟩ := x
      cases sel t (rStr p 1) b <;> cases x1 <;> rfl
  have h0 : affinity_near.v t p n (affinity_others.v v p) = ((affinity_near.w2 (affinity_others.v v p) t p n (false, false)).1, (affinity_near.w2 (affinity_others.v v p) t p n (false, false)).2) := by kernel_rfl
  rw [h0, h, othersV, gathered_any v p pairOf (fun b => sel t (rStr p 1) b && _), gathered_any v p pairOf (fun b => sel t (rStr p 1) b)]
  unfold hereB anyB
  simp only [sel_pair, tog_pair]
theorem refTog (v q n m : Row) (s : ByteArray) (h : nodeOf v q = some m) : ref36_together.v v q n s = tog n m s := by
  have e : ref36_NodeOf.v v (rStr q 13) = (et 51 m, true) := by
    rw [nodeOfV]; unfold nodeOf at h; rw [h]
  have : ref36_together.v v q n s = (bIte (bIte (ref36_Domain.v (et 51 (ref36_NodeOf.v v (rStr q 13)).1) s).2 (ref36_Domain.v n s).2 false) (sEq (ref36_Domain.v (et 51 (ref36_NodeOf.v v (rStr q 13)).1) s).1 (ref36_Domain.v n s).1) false) := by kernel_rfl
  rw [this, e, tog_symm, ← tog_1, ← tog_1]
  unfold tog
  cases (ref36_Domain.v (et 51 (et 51 m)) s).2 <;> cases (ref36_Domain.v n s).2 <;> rfl
theorem refNear (v p n t : Row) : ref36_near.v v p n t = hereB v p n t := by
  have h0 : ref36_near.v v p n t = Sum.elim (fun r1 => r1) (fun r2 => false) (walk (ref36_near.p3 v p n t) ref36_near.z3 (ref36_Bound.v v p) 0 ()) := by kernel_rfl
  have h1 : ∀ i q, q ∈ ref36_Bound.v v p → ref36_near.p3 v p n t i q () = bif (sel t (rStr p 1) q && ref36_together.v v q n (rStr t 3)) then .inr (.inl true) else .inl () := by
    intro i q _
    have : ref36_together.v (et 26 v) (et 45 q) (et 51 n) (rStr t 3) = ref36_together.v v q n (rStr t 3) := by kernel_rfl
    simp only [ref36_near.p3, sel, this]
    cases sEq (rStr q 1) (rStr p 1) <;> cases ref03_Matches.v (rSl t 2) (rSl q 9) <;> rfl
  rw [h0, walk_any _ _ h1, boundV, gathered_any]
  have h2 : gathered v p (fun q m => sel t (rStr p 1) (et 45 q) && ref36_together.v v (et 45 q) n (rStr t 3)) = gathered v p (fun q m => sel t (rStr p 1) q && tog n m (rStr t 3)) :=
    gathered_congr (fun q m _ h => by
      have h3 : nodeOf v (et 45 q) = some m := h
      rw [sel_q, refTog v _ n m _ h3])
  rw [h2]
  show Sum.elim _ _ (bif hereB v p n t then _ else _) = _
  cases hereB v p n t <;> rfl
theorem limitV (n : Int) : affinity_limit.v n = ref36_clamp.v n := by
  unfold affinity_limit.v ref36_clamp.v iMin iMax iLt
  rw [cond_eq_ite, cond_eq_ite]
  simp only [decide_eq_true_eq]
  split <;> split <;> (try split) <;> omega
theorem preferenceV (v p n : Row) : affinity_Preference.v v p n = ref36_Preference.v v p n := by
  have e1 : affinity_Preference.v v p n = affinity_limit.v (walk (affinity_Preference.p10 (affinity_others.v v p) p n) affinity_Preference.z10 (rSl p 20) 0 (walk (affinity_Preference.p4 n) affinity_Preference.z4 (rSl p 19) 0 0)) := by kernel_rfl
  have e2 : ref36_Preference.v v p n = ref36_clamp.v (walk (ref36_Preference.p9 v p n) ref36_Preference.z9 (rSl p 20) 0 (walk (ref36_Preference.p3 n) ref36_Preference.z3 (rSl p 19) 0 0)) := by kernel_rfl
  have h1 : walk (affinity_Preference.p4 n) affinity_Preference.z4 (rSl p 19) 0 0 = walk (ref36_Preference.p3 n) ref36_Preference.z3 (rSl p 19) 0 0 :=
    walk_congr (fun i q x _ => by simp only [affinity_Preference.p4, ref36_Preference.p3, matchesV_eq, limitV]) (fun _ => rfl)
  rw [e1, e2, h1, limitV]
  congr 1
  refine walk_congr (fun i t x _ => ?_) (fun _ => rfl)
  have n1 : affinity_near.v (et 107 t) (et 45 p) (et 51 n) (affinity_others.v v p) = affinity_near.v t p n (affinity_others.v v p) := by kernel_rfl
  have n2 : ref36_near.v (et 26 v) (et 45 p) (et 51 n) (et 107 t) = ref36_near.v v p n t := by kernel_rfl
  simp only [affinity_Preference.p10, ref36_Preference.p9, n1, n2, nearV, refNear, limitV]
  cases rBool t 0 <;> cases hereB v p n t <;> rfl
end
end Go.Proofs.YtilppppcafphbaaGreat.Ev
