/- ScorePicks, ScoreBest: the plain laws. Conditions: stated at each. -/
import Derived.Test.YtilppppcafphbaaGreatL39s
namespace Go.Proofs.YtilppppcafphbaaGreat.Ev
open Go Go.RowKit
set_option linter.unusedVariables false
set_option linter.unusedSimpArgs false
set_option maxRecDepth 100000
noncomputable section
/-- The best of names, as it is found: the name, its number, whether there is one. -/
def Top (T : ByteArray → Option Int) (l : List ByteArray) (x : ByteArray × Int × Bool) : Prop :=
  (x.2.2 = false ∧ x.1 = ByteArray.empty ∧ ∀ s, s ∈ l → T s = none) ∨ (x.2.2 = true ∧ x.1 ∈ l ∧ T x.1 = some x.2.1 ∧ ∀ s t, s ∈ l → T s = some t → t < x.2.1 ∨ (t = x.2.1 ∧ sLt s x.1 = false))
theorem Top.unique {T : ByteArray → Option Int} {l m : List ByteArray} {x y : ByteArray × Int × Bool} (h : Top T l x) (k : Top T m y) (e : ∀ s, s ∈ l ↔ s ∈ m) : x.1 = y.1 ∧ x.2.2 = y.2.2 := by
  rcases h with ⟨h1, h2, h3⟩ | ⟨h1, h2, h3, h4⟩
  · rcases k with ⟨k1, k2, k3⟩ | ⟨k1, k2, k3, k4⟩
    · exact ⟨h2.trans k2.symm, h1.trans k1.symm⟩
    · have := h3 _ ((e _).2 k2)
      rw [k3] at this; cases this
  · rcases k with ⟨k1, k2, k3⟩ | ⟨k1, k2, k3, k4⟩
    · have := k3 _ ((e _).1 h2)
      rw [h3] at this; cases this
    · refine ⟨?_, h1.trans k1.symm⟩
      have a := h4 _ _ ((e _).2 k2) k3
      have b := k4 _ _ ((e _).1 h2) h3
      rcases a with a | ⟨a1, a2⟩
      · rcases b with b | ⟨b1, b2⟩
        · omega
        · omega
      · rcases b with b | ⟨b1, b2⟩
        · omega
        · exact sLt_false b2 a2
def stepC (T : ByteArray → Option Int) (s : ByteArray) (x : ByteArray × Int × Bool) : ByteArray × Int × Bool :=
  match T s with
  | none => x
  | some r => bif bIte (bNot x.2.2) true (iLt x.2.1 r) then (s, r, true) else x
def stepR (T : ByteArray → Option Int) (s : ByteArray) (x : ByteArray × Int × Bool) : ByteArray × Int × Bool :=
  match T s with
  | none => x
  | some r => bif bIte (bIte (bNot x.2.2) true (iLt x.2.1 r)) true (bIte (iEq r x.2.1) (sLt s x.1) false) then (s, r, true) else (x.1, x.2.1, true)
theorem Top.none {T : ByteArray → Option Int} {l : List ByteArray} {x : ByteArray × Int × Bool} (h : Top T l x) {s : ByteArray} (hs : T s = none) : Top T (l ++ [s]) x := by
  rcases h with ⟨h1, h2, h3⟩ | ⟨h1, h2, h3, h4⟩
  · refine Or.inl ⟨h1, h2, fun u hu => ?_⟩
    rcases List.mem_append.1 hu with hu | hu
    · exact h3 u hu
    · rw [List.mem_singleton.1 hu]; exact hs
  · refine Or.inr ⟨h1, List.mem_append_left _ h2, h3, fun u t hu ht => ?_⟩
    rcases List.mem_append.1 hu with hu | hu
    · exact h4 u t hu ht
    · rw [List.mem_singleton.1 hu, hs] at ht; cases ht
theorem Top.turn {T : ByteArray → Option Int} {l : List ByteArray} {x : ByteArray × Int × Bool} (h : Top T l x) {s : ByteArray} {r : Int} (hs : T s = some r) (hb : x.2.2 = false ∨ x.2.1 < r ∨ (r = x.2.1 ∧ sLt s x.1 = true)) : Top T (l ++ [s]) (s, r, true) := by
  refine Or.inr ⟨rfl, List.mem_append_right _ (List.mem_singleton.2 rfl), hs, fun u t hu ht => ?_⟩
  rcases List.mem_append.1 hu with hu | hu
  · rcases h with ⟨h1, h2, h3⟩ | ⟨h1, h2, h3, h4⟩
    · rw [h3 u hu] at ht; cases ht
    · rcases hb with hb | hb | ⟨hb1, hb2⟩
      · rw [h1] at hb; cases hb
      · rcases h4 u t hu ht with a | ⟨a1, a2⟩
        · exact Or.inl (by show t < r; omega)
        · exact Or.inl (by show t < r; omega)
      · rcases h4 u t hu ht with a | ⟨a1, a2⟩
        · exact Or.inl (by show t < r; omega)
        · refine Or.inr ⟨by show t = r; omega, ?_⟩
          show sLt u s = false
          exact sLt_trans' (a := s) (b := x.1) (c := u) (sLt_asymm hb2) a2
  · rw [List.mem_singleton.1 hu, hs] at ht
    injection ht with ht
    exact Or.inr ⟨ht.symm, by rw [List.mem_singleton.1 hu]; exact sLt_irr s⟩
theorem Top.stay {T : ByteArray → Option Int} {l : List ByteArray} {x : ByteArray × Int × Bool} (h : Top T l x) {s : ByteArray} {r : Int} (hs : T s = some r) (hx : x.2.2 = true) (hb : r < x.2.1 ∨ (r = x.2.1 ∧ sLt s x.1 = false)) : Top T (l ++ [s]) (x.1, x.2.1, true) := by
  rcases h with ⟨h1, h2, h3⟩ | ⟨h1, h2, h3, h4⟩
  · rw [hx] at h1; cases h1
  · refine Or.inr ⟨rfl, List.mem_append_left _ h2, h3, fun u t hu ht => ?_⟩
    rcases List.mem_append.1 hu with hu | hu
    · exact h4 u t hu ht
    · rw [List.mem_singleton.1 hu, hs] at ht
      injection ht with ht
      subst ht
      rw [List.mem_singleton.1 hu]; exact hb
theorem stepR_top {T : ByteArray → Option Int} {l : List ByteArray} {x : ByteArray × Int × Bool} (h : Top T l x) (s : ByteArray) : Top T (l ++ [s]) (stepR T s x) := by
  unfold stepR
  cases hs : T s with
  | none => exact h.none hs
  | some r =>
    dsimp only
    cases hx : x.2.2 with
    | false => exact h.turn hs (Or.inl hx)
    | true =>
      by_cases h1 : x.2.1 < r
      · rw [show iLt x.2.1 r = true from decide_eq_true h1]
        exact h.turn hs (Or.inr (Or.inl h1))
      · rw [show iLt x.2.1 r = false from decide_eq_false h1]
        by_cases h2 : r = x.2.1
        · rw [show iEq r x.2.1 = true from iEq_iff.2 h2]
          cases h3 : sLt s x.1 with
          | true => exact h.turn hs (Or.inr (Or.inr ⟨h2, h3⟩))
          | false => exact h.stay hs hx (Or.inr ⟨h2, h3⟩)
        · rw [show iEq r x.2.1 = false from beq_eq_false_iff_ne.2 h2]
          exact h.stay hs hx (Or.inl (by omega))
theorem stepC_top {T : ByteArray → Option Int} {l : List ByteArray} {x : ByteArray × Int × Bool} (h : Top T l x) (s : ByteArray) (hl : ∀ e, e ∈ l → sLt e s = true) : Top T (l ++ [s]) (stepC T s x) := by
  unfold stepC
  cases hs : T s with
  | none => exact h.none hs
  | some r =>
    dsimp only
    cases hx : x.2.2 with
    | false => exact h.turn hs (Or.inl hx)
    | true =>
      by_cases h1 : x.2.1 < r
      · rw [show iLt x.2.1 r = true from decide_eq_true h1]
        exact h.turn hs (Or.inr (Or.inl h1))
      · rw [show iLt x.2.1 r = false from decide_eq_false h1]
        have hin : x.1 ∈ l := by
          rcases h with ⟨q1, _, _⟩ | ⟨_, q2, _, _⟩
          · rw [hx] at q1; cases q1
          · exact q2
        have := h.stay hs hx (by
          by_cases h2 : r = x.2.1
          · exact Or.inr ⟨h2, sLt_asymm (hl _ hin)⟩
          · exact Or.inl (by omega))
        obtain ⟨b, n, f⟩ := x
        simp only at hx; subst hx
        exact this
theorem foldR_top {T : ByteArray → Option Int} : ∀ (m l : List ByteArray) {x : ByteArray × Int × Bool}, Top T l x → Top T (l ++ m) (m.foldl (fun x s => stepR T s x) x)
  | [], l, x, h => by rw [List.append_nil]; exact h
  | s :: m, l, x, h => by
    have := foldR_top m (l ++ [s]) (stepR_top h s)
    rw [List.append_assoc] at this
    exact this
theorem foldC_top {T : ByteArray → Option Int} : ∀ (m l : List ByteArray) {x : ByteArray × Int × Bool}, Asc (l ++ m) → Top T l x → Top T (l ++ m) (m.foldl (fun x s => stepC T s x) x)
  | [], l, x, _, h => by rw [List.append_nil]; exact h
  | s :: m, l, x, ha, h => by
    have hl : ∀ e, e ∈ l → sLt e s = true := fun e he => (List.pairwise_append.1 ha).2.2 e he s (List.mem_cons_self ..)
    have e : l ++ s :: m = (l ++ [s]) ++ m := by simp
    rw [e] at ha ⊢
    exact foldC_top m (l ++ [s]) ha (stepC_top h s hl)
theorem top_start (T : ByteArray → Option Int) : Top T [] (ByteArray.empty, 0, false) := Or.inl ⟨rfl, rfl, fun s h => by cases h⟩
/-- Names of rows. -/
def nmOf (es : Rows) : List ByteArray := es.map fun q => rStr q 0
theorem uq_asc : ∀ (es : Rows) (s : ByteArray), (es.Pairwise fun a b => sLt (rStr b 0) (rStr a 0) = false) → (∀ e, e ∈ es → sLt (rStr e 0) s = false) →
    Asc (nmOf (slices_Compact_string_string.uq s es)) ∧ (∀ u, u ∈ nmOf (slices_Compact_string_string.uq s es) → sLt s u = true) ∧ ∀ e, e ∈ es → rStr e 0 = s ∨ rStr e 0 ∈ nmOf (slices_Compact_string_string.uq s es)
  | [], s, _, _ => ⟨List.Pairwise.nil, fun u h => (by cases h), fun e h => (by cases h)⟩
  | q :: l, s, hp, hs => by
    obtain ⟨hp1, hp2⟩ := List.pairwise_cons.1 hp
    unfold slices_Compact_string_string.uq
    cases hq : sEq (rStr q 0) s with
    | true =>
      obtain ⟨h1, h2, h3⟩ := uq_asc l s hp2 (fun e he => hs e (List.mem_cons_of_mem _ he))
      refine ⟨h1, h2, fun e he => ?_⟩
      rcases List.mem_cons.1 he with rfl | he
      · exact Or.inl (sEq_iff.1 hq)
      · exact h3 e he
    | false =>
      obtain ⟨h1, h2, h3⟩ := uq_asc l (rStr q 0) hp2 (fun e he => hp1 e he)
      have hlt : sLt s (rStr q 0) = true := by
        cases hc : sLt s (rStr q 0) with
        | true => rfl
        | false => exact absurd (sLt_false (hs q (List.mem_cons_self ..)) hc) (sEq_ff.1 hq)
      show Asc (rStr q 0 :: nmOf (slices_Compact_string_string.uq (rStr q 0) l)) ∧ (∀ u, u ∈ rStr q 0 :: nmOf (slices_Compact_string_string.uq (rStr q 0) l) → _) ∧ ∀ e, e ∈ q :: l → _ ∨ _ ∈ rStr q 0 :: nmOf (slices_Compact_string_string.uq (rStr q 0) l)
      refine ⟨List.pairwise_cons.2 ⟨h2, h1⟩, fun u hu => ?_, fun e he => ?_⟩
      · rcases List.mem_cons.1 hu with rfl | hu
        · exact hlt
        · exact sLt_tr hlt (h2 u hu)
      · rcases List.mem_cons.1 he with rfl | he
        · exact Or.inr (List.mem_cons_self ..)
        · rcases h3 e he with h | h
          · exact Or.inr (by rw [h]; exact List.mem_cons_self ..)
          · exact Or.inr (List.mem_cons_of_mem _ h)
theorem cq_asc (es : Rows) (hp : es.Pairwise fun a b => sLt (rStr b 0) (rStr a 0) = false) : Asc (nmOf (slices_Compact_string_string.cq es)) ∧ ∀ s, s ∈ nmOf (slices_Compact_string_string.cq es) ↔ s ∈ nmOf es := by
  cases es with
  | nil => exact ⟨List.Pairwise.nil, fun s => Iff.rfl⟩
  | cons q l =>
    obtain ⟨hp1, hp2⟩ := List.pairwise_cons.1 hp
    obtain ⟨h1, h2, h3⟩ := uq_asc l (rStr q 0) hp2 hp1
    refine ⟨List.pairwise_cons.2 ⟨h2, h1⟩, fun s => ⟨fun hs => ?_, fun hs => ?_⟩⟩
    · obtain ⟨e, he, rfl⟩ := List.mem_map.1 hs
      exact List.mem_map.2 ⟨e, slices_Compact_string_string.cq_mem he, rfl⟩
    · rcases List.mem_cons.1 hs with rfl | hs
      · exact List.mem_cons_self ..
      · obtain ⟨e, he, rfl⟩ := List.mem_map.1 hs
        rcases h3 e he with h | h
        · rw [h]; exact List.mem_cons_self ..
        · exact List.mem_cons_of_mem _ h
theorem take_cq (es : Rows) : rTake (slices_Compact_string_string.zq es) (rLen (slices_Compact_string_string.cq es)) = slices_Compact_string_string.cq es := by
  unfold rTake rLen slices_Compact_string_string.zq
  rw [Int.toNat_natCast, List.take_append_of_le_length (Nat.le_refl _), List.take_length]
theorem take_sort (es : Rows) : rTake (sortC es) (rLen es) = sortC es := by
  unfold rTake rLen
  rw [Int.toNat_natCast, ← (sortC_perm es).length_eq, List.take_length]
/-- The number of a node's name. -/
def tot (v p : Row) (s : ByteArray) : Option Int := ((rSl v 0).find? fun q => sEq (rStr q 2) s).map fun q => score_Total.v (et 26 v) (et 45 p) (et 51 q)
theorem best1V (q : Row) (s : ByteArray) : score_Best_1.v (et 51 q) [.str s] = sEq (rStr q 2) s := by kernel_rfl
theorem et_view (v : Row) : et 26 (et 26 v) = et 26 v := by kernel_rfl
theorem et_pod (v : Row) : et 45 (et 45 v) = et 45 v := by kernel_rfl
theorem et_node (v : Row) : et 51 (et 51 v) = et 51 v := by kernel_rfl
theorem sl_view (v : Row) : rSl (et 26 v) 0 = rSl v 0 := by kernel_rfl
theorem bestStep (v p : Row) (i : Int) (q : Row) (x : ByteArray × Int × Bool) : score_Best.p4 (et 26 v) (et 45 p) i q x = .inl (stepC (tot v p) (rStr q 0) x) := by
  have e1 : score_Best.p4 (et 26 v) (et 45 p) i q x = bif iLt (Sum.elim (fun r0 => r0) (fun r1 => (-1)) (walk slices_IndexFunc_api_Node_api_Node_c38.p2 slices_IndexFunc_api_Node_api_Node_c38.z2 (rSl (et 26 v) 0) 0 [.str (rStr q 0)])) 0 then (.inl (x.1, x.2.1, x.2.2)) else
      (bif bIte (bNot x.2.2) true (iLt x.2.1 (score_Total.v (et 26 (et 26 v)) (et 45 (et 45 p)) (et 51 (rAt (rSl (et 26 v) 0) (Sum.elim (fun r0 => r0) (fun r1 => (-1)) (walk slices_IndexFunc_api_Node_api_Node_c38.p2 slices_IndexFunc_api_Node_api_Node_c38.z2 (rSl (et 26 v) 0) 0 [.str (rStr q 0)])))))) then
        (.inl ((rStr q 0), score_Total.v (et 26 (et 26 v)) (et 45 (et 45 p)) (et 51 (rAt (rSl (et 26 v) 0) (Sum.elim (fun r0 => r0) (fun r1 => (-1)) (walk slices_IndexFunc_api_Node_api_Node_c38.p2 slices_IndexFunc_api_Node_api_Node_c38.z2 (rSl (et 26 v) 0) 0 [.str (rStr q 0)])))), true)) else (.inl (x.1, x.2.1, x.2.2))) := rfl
  rw [e1, sl_view, et_view, et_pod]
  unfold stepC tot
  rcases walk_where (p := slices_IndexFunc_api_Node_api_Node_c38.p2) (z := slices_IndexFunc_api_Node_api_Node_c38.z2) (fun n => sEq (rStr n 2) (rStr q 0)) [.str (rStr q 0)] () (fun i n => by
      unfold slices_IndexFunc_api_Node_api_Node_c38.p2
      show (bif score_Best_1.v (et 51 n) [.str (rStr q 0)] then _ else _) = _
      rw [best1V]; rfl) rfl (rSl v 0) 0 with ⟨h1, h2⟩ | ⟨k, h1, h2, h3⟩
  · rw [h1, h2]; rfl
  · rw [h1, h3, List.getElem?_eq_getElem h2]
    have hk : iLt (0 + (k : Int)) 0 = false := decide_eq_false (by omega)
    show (bif iLt (0 + (k : Int)) 0 then _ else _) = _
    rw [hk]
    show (bif bIte (bNot x.2.2) true (iLt x.2.1 (score_Total.v (et 26 v) (et 45 p) (et 51 (rAt (rSl v 0) (0 + (k : Int)))))) then _ else _) = _
    rw [at_nat _ _ h2]
    show (bif bIte (bNot x.2.2) true (iLt x.2.1 (score_Total.v (et 26 v) (et 45 p) (et 51 (rSl v 0)[k]))) then Sum.inl ((rStr q 0), score_Total.v (et 26 v) (et 45 p) (et 51 (rAt (rSl v 0) (0 + (k : Int)))), true) else Sum.inl x) = Sum.inl (bif bIte (bNot x.2.2) true (iLt x.2.1 (score_Total.v (et 26 v) (et 45 p) (et 51 (rSl v 0)[k]))) then (rStr q 0, score_Total.v (et 26 v) (et 45 p) (et 51 (rSl v 0)[k]), true) else x)
    rw [at_nat _ _ h2]
    cases bIte (bNot x.2.2) true (iLt x.2.1 (score_Total.v (et 26 v) (et 45 p) (et 51 (rSl v 0)[k]))) <;> rfl
theorem fold_nm {X : Type} (f : X → ByteArray → X) : ∀ (es : Rows) (x : X), es.foldl (fun x q => f x (rStr q 0)) x = (nmOf es).foldl f x
  | [], _ => rfl
  | q :: l, x => fold_nm f l _
theorem bestTop (v p : Row) (es : Rows) : ∃ x, Top (tot v p) (nmOf es) x ∧ score_Best.v v p es = (x.1, x.2.2) := by
  have e1 : score_Best.v v p es = walk (score_Best.p4 (et 26 v) (et 45 p)) score_Best.z4 (rTake (slices_Compact_string_string.zq (rTake (sortC es) (rLen es))) (rLen (slices_Compact_string_string.cq (rTake (sortC es) (rLen es))))) 0 (ByteArray.empty, 0, false) := rfl
  rw [take_sort, take_cq] at e1
  rw [walk_fold (fun x q => stepC (tot v p) (rStr q 0) x) (fun i q x _ => bestStep v p i q x)] at e1
  rw [fold_nm (fun x s => stepC (tot v p) s x)] at e1
  obtain ⟨h1, h2⟩ := cq_asc (sortC es) (sortC_sorted es)
  have ht := foldC_top (T := tot v p) (nmOf (slices_Compact_string_string.cq (sortC es))) [] h1 (top_start _)
  rw [List.nil_append] at ht
  refine ⟨_, ?_, e1⟩
  have hm : ∀ s, s ∈ nmOf (slices_Compact_string_string.cq (sortC es)) ↔ s ∈ nmOf es := fun s => (h2 s).trans ((sortC_perm es).map _).mem_iff
  rcases ht with ⟨a, b, c⟩ | ⟨a, b, c, d⟩
  · exact Or.inl ⟨a, b, fun s hs => c s ((hm s).2 hs)⟩
  · exact Or.inr ⟨a, (hm _).1 b, c, fun s t hs ht => d s t ((hm s).2 hs) ht⟩
theorem nodeV (v : Row) (s : ByteArray) : ref36_NodeOf.v v s = match (rSl v 0).find? (fun n => sEq (rStr n 2) s) with | some n => (et 51 n, true) | none => (((ref36_NodeOf.v v s).1), false) := nodeOfV v s
theorem bif_inl {X Y : Type} {c : Bool} {a b : X} : (bif c then (Sum.inl a : X ⊕ Y) else Sum.inl b) = Sum.inl (bif c then a else b) := by cases c <;> rfl
theorem refStep (v p : Row) (hN : (rSl v 1).length ≤ 1048576) (i : Int) (q : Row) (x : ByteArray × Int × Bool) : ref39_Best.p5 (et 26 v) (et 45 p) i q x = .inl (stepR (tot v p) (rStr q 0) x) := by
  have hN' : (rSl (et 26 v) 1).length ≤ 1048576 := by
    have e : rSl (et 26 v) 1 = rSl v 1 := by kernel_rfl
    rw [e]; exact hN
  have e0 : ∀ r0 : Row × Bool, r0 = ref36_NodeOf.v (et 26 (et 26 v)) (rStr q 0) → ref39_Best.p5 (et 26 v) (et 45 p) i q x = bif bNot r0.2 then (.inl (x.1, x.2.1, x.2.2)) else (bif bIte (bIte (bNot x.2.2) true (iLt x.2.1 (ref39_Total.v (et 26 (et 26 v)) (et 45 (et 45 p)) (et 51 r0.1)))) true (bIte (iEq (ref39_Total.v (et 26 (et 26 v)) (et 45 (et 45 p)) (et 51 r0.1)) x.2.1) (sLt (rStr q 0) x.1) false) then (.inl ((rStr q 0), ref39_Total.v (et 26 (et 26 v)) (et 45 (et 45 p)) (et 51 r0.1), true)) else (.inl (x.1, x.2.1, true))) := fun r0 e => by rw [e]; rfl
  have e2 := nodeOfV (et 26 v) (rStr q 0)
  rw [sl_view] at e2
  unfold stepR tot
  cases hf : (rSl v 0).find? (fun n => sEq (rStr n 2) (rStr q 0)) with
  | none =>
    rw [hf] at e2
    rw [e0 _ rfl, et_view]
    have e3 : (ref36_NodeOf.v (et 26 v) (rStr q 0)).2 = false := by rw [e2]
    rw [e3]; rfl
  | some n =>
    rw [hf] at e2
    rw [e0 (et 51 n, true) (by rw [et_view, e2]), et_view, et_pod, et_node]
    dsimp only
    rw [← totalV _ _ _ hN']
    exact bif_inl
theorem refTop (v p : Row) (hN : (rSl v 1).length ≤ 1048576) (es : Rows) : ∃ x, Top (tot v p) (nmOf es) x ∧ ref39_Best.v v p es = (x.1, x.2.2) := by
  have e1 : ref39_Best.v v p es = walk (ref39_Best.p5 (et 26 v) (et 45 p)) ref39_Best.z5 es 0 (ByteArray.empty, 0, false) := rfl
  rw [walk_fold (fun x q => stepR (tot v p) (rStr q 0) x) (fun i q x _ => refStep v p hN i q x)] at e1
  rw [fold_nm (fun x s => stepR (tot v p) s x)] at e1
  have ht := foldR_top (T := tot v p) (nmOf es) [] (top_start _)
  rw [List.nil_append] at ht
  exact ⟨_, ht, e1⟩
theorem bestV (v p : Row) (hN : (rSl v 1).length ≤ 1048576) (es : Rows) : score_Best.v v p es = ref39_Best.v v p es := by
  obtain ⟨x, h1, h2⟩ := bestTop v p es
  obtain ⟨y, k1, k2⟩ := refTop v p hN es
  obtain ⟨e1, e2⟩ := h1.unique k1 (fun s => Iff.rfl)
  rw [h2, k2, e1, e2]
theorem scorePicksV (a0 a1 : Row) (a2 : Rows) (hN : (rSl a0 1).length ≤ 1048576) : law39_ScorePicks.v a0 a1 a2 = true := by
  have hN' : (rSl (et 26 a0) 1).length ≤ 1048576 := by
    have e : rSl (et 26 a0) 1 = rSl a0 1 := by kernel_rfl
    rw [e]; exact hN
  unfold law39_ScorePicks.v
  dsimp only
  rw [lives39V, bestV _ _ hN', sEq_refl]
  have hb : ∀ b : Bool, bEq b b = true := fun b => by cases b <;> rfl
  rw [hb]
  generalize bIte (bNot (law39_small.v _ _ _)) true _ = g
  cases g <;> rfl
theorem law39_ScorePicks.true_ (a0 a1 : Row) (a2 : Rows) (h0 : Br a0) (h1 : Br a1) (h2 : Brs a2) : D (fun k => (law39_ScorePicks.f k a0 a1 a2).eval) (fun u => u = true) := (law39_ScorePicks.val a0 a1 a2 h0 h1 h2).true_ (scorePicksV a0 a1 a2 ((h0.sl 1).1))
/-- A name of the list: its node, if there is one, is not better than the best. -/
theorem bestWalk (v p : Row) (es : Rows) (x : ByteArray × Int × Bool) (hx : Top (tot v p) (nmOf es) x) (n : Row × Bool) (hn : n = ref36_NodeOf.v (et 26 v) x.1) : ∀ (l : Rows) (i : Int) (y : Bool), (∀ q, q ∈ l → rStr q 0 ∈ nmOf es) →
    walk (law39_ScoreBest.p7 x.1 x.2.2 n.2 (et 26 v) (et 45 p) (et 51 n.1)) law39_ScoreBest.z7 l i y = .inr (y || (nmOf l).any fun s => sEq s x.1)
  | [], i, y, _ => by
    show Sum.inr y = _
    simp [nmOf]
  | q :: l, i, y, hl => by
    have hq := hl q (List.mem_cons_self ..)
    have ih := bestWalk v p es x hx n hn l (i + 1) (bIte y true (sEq (rStr q 0) x.1)) (fun r hr => hl r (List.mem_cons_of_mem _ hr))
    have key : law39_ScoreBest.p7 x.1 x.2.2 n.2 (et 26 v) (et 45 p) (et 51 n.1) i q y = .inl (bIte y true (sEq (rStr q 0) x.1)) := by
      unfold law39_ScoreBest.p7
      dsimp only
      rw [et_view, et_pod, et_node]
      have e2 := nodeOfV (et 26 v) (rStr q 0)
      rw [sl_view] at e2
      cases hf : (rSl v 0).find? (fun n => sEq (rStr n 2) (rStr q 0)) with
      | none =>
        rw [hf] at e2
        have e3 : (ref36_NodeOf.v (et 26 v) (rStr q 0)).2 = false := by rw [e2]
        rw [e3]; rfl
      | some m =>
        rw [hf] at e2
        have ht : tot v p (rStr q 0) = some (score_Total.v (et 26 v) (et 45 p) (et 51 m)) := by unfold tot; rw [hf]; rfl
        rcases hx with ⟨h1, h2, h3⟩ | ⟨h1, h2, h3, h4⟩
        · rw [h3 _ hq] at ht; cases ht
        · have e4 := nodeOfV (et 26 v) x.1
          rw [sl_view] at e4
          have h3' := h3
          unfold tot at h3'
          cases hg : (rSl v 0).find? (fun n => sEq (rStr n 2) x.1) with
          | none => rw [hg] at h3'; cases h3'
          | some o =>
            rw [hg] at e4 h3'
            have e4 : n = (et 51 o, true) := by rw [hn, e4]
            have h3'' : score_Total.v (et 26 v) (et 45 p) (et 51 o) = x.2.1 := by injection h3'
            rw [e2, e4, h1]
            dsimp only
            rw [et_node, et_node, h3'']
            have hc := h4 _ _ hq ht
            generalize score_Total.v (et 26 v) (et 45 p) (et 51 m) = t at hc
            rcases hc with hc | ⟨hc1, hc2⟩
            · have a1 : iLt x.2.1 t = false := decide_eq_false (by omega)
              have a2 : iEq t x.2.1 = false := beq_eq_false_iff_ne.2 (by omega)
              simp only [bAnd, bNot, bIte, Bool.not_true, Bool.not_false, cond_true, cond_false, Bool.and_true, a1, a2]
            · subst hc1
              have a1 : iLt x.2.1 x.2.1 = false := decide_eq_false (by omega)
              simp only [bAnd, bNot, bIte, Bool.not_true, Bool.not_false, cond_true, cond_false, Bool.and_true, a1, iEq_refl, hc2]
    simp only [walk]
    rw [key]
    show walk _ _ l (i + 1) _ = _
    rw [ih]
    congr 1
    show (bIte y true (sEq (rStr q 0) x.1) || (nmOf l).any _) = (y || (rStr q 0 :: nmOf l).any _)
    rw [List.any_cons]
    cases y <;> rfl
theorem turn_mem (a2 : Rows) (k : Int) (h0 : 0 ≤ k) (h1 : k < rLen a2) (s : ByteArray) : s ∈ nmOf (rCat (rCat (rCat [] (rCut a2 k (rLen a2))) (rCut a2 0 k)) [[.str (rStr (rAt a2 k) 0)]]) ↔ s ∈ nmOf a2 := by
  have hk : k.toNat < a2.length := by unfold rLen at h1; omega
  have e1 : rCut a2 k (rLen a2) = a2.drop k.toNat := by unfold rCut rLen; simp
  have e2 : rCut a2 0 k = a2.take k.toNat := by unfold rCut; simp
  have e3 : rAt a2 k = a2[k.toNat] := by unfold rAt; rw [List.getD_eq_getElem?_getD, List.getElem?_eq_getElem hk]; rfl
  rw [e1, e2, e3]
  have e4 : nmOf (rCat (rCat (rCat [] (a2.drop k.toNat)) (a2.take k.toNat)) [[.str (rStr a2[k.toNat] 0)]]) = (nmOf (a2.drop k.toNat) ++ nmOf (a2.take k.toNat)) ++ [rStr a2[k.toNat] 0] := by
    unfold nmOf rCat
    rw [List.nil_append, List.map_append, List.map_append]; rfl
  have e5 : nmOf a2 = nmOf (a2.take k.toNat) ++ nmOf (a2.drop k.toNat) := by
    unfold nmOf
    rw [← List.map_append, List.take_append_drop]
  have e6 : rStr a2[k.toNat] 0 ∈ nmOf a2 := List.mem_map.2 ⟨_, List.getElem_mem hk, rfl⟩
  rw [e4]
  constructor
  · intro h
    rcases List.mem_append.1 h with h | h
    · rw [e5]
      rcases List.mem_append.1 h with h | h
      · exact List.mem_append_right _ h
      · exact List.mem_append_left _ h
    · rw [List.mem_singleton.1 h]; exact e6
  · intro h
    rw [e5] at h
    refine List.mem_append_left _ ?_
    rcases List.mem_append.1 h with h | h
    · exact List.mem_append_right _ h
    · exact List.mem_append_left _ h
theorem tot_et (v p : Row) : tot (et 26 v) (et 45 p) = tot v p := by
  unfold tot
  rw [sl_view, et_view, et_pod]
theorem scoreBestV (a0 a1 : Row) (a2 : Rows) (a3 : Int) (hu : 0 ≤ a3 ∧ a3 ≤ 255) : law39_ScoreBest.v a0 a1 a2 a3 = true := by
  obtain ⟨x, hx, hb⟩ := bestTop (et 26 a0) (et 45 a1) a2
  rw [tot_et] at hx
  unfold law39_ScoreBest.v
  dsimp only
  rw [lives39V, hb]
  dsimp only
  have hw := bestWalk a0 a1 a2 x hx (ref36_NodeOf.v (et 26 a0) x.1) rfl a2 0 false (fun q hq => List.mem_map.2 ⟨q, hq, rfl⟩)
  have hw' : law39_ScoreBest.w7 x.1 x.2.2 (ref36_NodeOf.v (et 26 a0) x.1).2 a2 (et 26 a0) (et 45 a1) (et 51 (ref36_NodeOf.v (et 26 a0) x.1).1) false = .inr ((nmOf a2).any fun s => sEq s x.1) := hw
  rw [hw']
  generalize bIte (bIte (bNot (law39_small.v _ _ _)) true _) true _ = g
  cases g with
  | true => rfl
  | false =>
    show (bif bIte x.2.2 (bNot ((nmOf a2).any fun s => sEq s x.1)) false then false else _) = true
    have hin : bIte x.2.2 (bNot ((nmOf a2).any fun s => sEq s x.1)) false = false := by
      rcases hx with ⟨h1, h2, h3⟩ | ⟨h1, h2, h3, h4⟩
      · rw [h1]; rfl
      · have : ((nmOf a2).any fun s => sEq s x.1) = true := List.any_eq_true.2 ⟨_, h2, sEq_refl _⟩
        rw [this, h1]; rfl
    rw [hin]
    show (bif iLt 0 (rLen a2) then _ else true) = true
    cases hp : iLt 0 (rLen a2) with
    | false => rfl
    | true =>
      obtain ⟨k1, k2⟩ := rem_lt hu hp
      obtain ⟨y, hy, hc⟩ := bestTop (et 26 a0) (et 45 a1) (rCat (rCat (rCat [] (rCut a2 (iRem (iCv .i64 a3) (rLen a2)) (rLen a2))) (rCut a2 0 (iRem (iCv .i64 a3) (rLen a2)))) [[.str (rStr (rAt a2 (iRem (iCv .i64 a3) (rLen a2))) 0)]])
      rw [tot_et] at hy
      obtain ⟨e1, e2⟩ := hy.unique hx (fun s => turn_mem a2 _ k1 k2 s)
      rw [hc]
      show (bif bIte (bNot (sEq y.1 x.1)) true (bNot (bEq y.2.2 x.2.2)) then false else true) = true
      rw [e1, e2, sEq_refl]
      cases x.2.2 <;> rfl
theorem law39_ScoreBest.true_ (a0 a1 : Row) (a2 : Rows) (a3 : Int) (h0 : Br a0) (h1 : Br a1) (h2 : Brs a2) (hu : 0 ≤ a3 ∧ a3 ≤ 255) : D (fun k => (law39_ScoreBest.f k a0 a1 a2 a3).eval) (fun u => u = true) := (law39_ScoreBest.val a0 a1 a2 a3 h0 h1 h2 hu).true_ (scoreBestV a0 a1 a2 a3 hu)
end
end Go.Proofs.YtilppppcafphbaaGreat.Ev
