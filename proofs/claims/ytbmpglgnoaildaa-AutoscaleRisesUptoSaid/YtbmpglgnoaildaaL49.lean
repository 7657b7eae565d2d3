/- The plain laws of autoscale. Conditions: stated at each. -/
import Derived.Test.YtbmpglgnoaildaaVa
namespace Go.Proofs.Ytbmpglgnoaildaa.Ev
open Go Go.RowKit
set_option linter.unusedVariables false
set_option linter.unusedSimpArgs false
set_option maxRecDepth 100000
noncomputable section
theorem iMin_le_l (a b : Int) : iMin a b ≤ a := by unfold iMin; split <;> omega
theorem iMin_le_r (a b : Int) : iMin a b ≤ b := by unfold iMin; split <;> omega
theorem iMax_ge_l (a b : Int) : a ≤ iMax a b := by unfold iMax; split <;> omega
theorem iMax_ge_r (a b : Int) : b ≤ iMax a b := by unfold iMax; split <;> omega
theorem clamp_in (n : Int) {lo hi : Int} (h : lo ≤ hi) : lo ≤ iMin (iMax n lo) hi ∧ iMin (iMax n lo) hi ≤ hi := by
  unfold iMin iMax; split <;> split <;> omega
theorem clamp_id {n lo hi : Int} (h : lo ≤ n ∧ n ≤ hi) : iMin (iMax n lo) hi = n := by
  unfold iMin iMax; split <;> split <;> omega
def loA (a : Row) : Int := iMin (iMax (rInt a 15) 0) 40
def hiA (a : Row) : Int := iMin (iMax (rInt a 16) (loA a)) 40
theorem lohi (a : Row) : 0 ≤ loA a ∧ loA a ≤ hiA a ∧ hiA a ≤ 40 := by
  have h1 := clamp_in (rInt a 15) (lo := 0) (hi := 40) (by decide)
  have h2 := clamp_in (rInt a 16) (lo := loA a) (hi := 40) h1.2
  exact ⟨h1.1, h2.1, h2.2⟩
theorem desiredB (a : Row) (r : Int) (p l : Rows) (h : 1 ≤ r ∧ r ≤ 40) : loA a ≤ autoscale_Desired.v a r p l ∧ autoscale_Desired.v a r p l ≤ hiA a := by
  have e : ∃ X, autoscale_Desired.v a r p l = iMin (iMax X (loA a)) (hiA a) := by
    unfold autoscale_Desired.v
    dsimp only
    have e1 : autoscale_clamp.v r 0 40 = r := clamp_id ⟨by omega, h.2⟩
    have e2 : iEq r 0 = false := by
      cases hq : iEq r 0 with
      | false => rfl
      | true => have := iEq_iff.1 hq; omega
    rw [e1, e2]
    have eb : autoscale_bounds.v (et 33 a) = (loA a, hiA a) := by kernel_rfl
    rw [eb]
    generalize autoscale_Desired.w6 p l r (rSl a 17) (et 33 a) (0, false) = w
    obtain ⟨w1, w2⟩ := w
    cases w2
    · exact ⟨r, rfl⟩
    · exact ⟨w1, rfl⟩
  obtain ⟨X, e⟩ := e
  rw [e]
  exact clamp_in X (lohi a).2.1
-- the number that recent advice permits
theorem fold_adv (f : Int × Int → Row → Int × Int) (hf : ∀ x q, (f x q).1 ≤ x.1 ∧ x.2 ≤ (f x q).2) (q : Row) (hq : ∀ x, (f x q).1 ≤ rInt q 1 ∧ rInt q 1 ≤ (f x q).2) : ∀ (es : Rows) (x : Int × Int), (es.foldl f x).1 ≤ x.1 ∧ x.2 ≤ (es.foldl f x).2 ∧ (q ∈ es → (es.foldl f x).1 ≤ rInt q 1 ∧ rInt q 1 ≤ (es.foldl f x).2)
  | [], x => ⟨Int.le_refl _, Int.le_refl _, fun h => by cases h⟩
  | y :: es, x => by
    obtain ⟨h1, h2, h3⟩ := fold_adv f hf q hq es (f x y)
    rw [List.foldl_cons]
    refine ⟨Int.le_trans h1 (hf x y).1, Int.le_trans (hf x y).2 h2, fun h => ?_⟩
    rcases List.mem_cons.1 h with rfl | h
    · exact ⟨Int.le_trans h1 (hq x).1, Int.le_trans (hq x).2 h2⟩
    · exact h3 h
theorem targetB (a : Row) (r t : Int) (q : Row) (hq : q ∈ rSl a 26) (ht : rInt q 0 = t) (h0 : 0 ≤ t ∧ t ≤ 1000000000000) : (r < autoscale_target.v a r t → autoscale_target.v a r t ≤ rInt q 1) ∧ (autoscale_target.v a r t < r → rInt q 1 ≤ autoscale_target.v a r t) := by
  let u := autoscale_clamp.v (rInt (et 33 a) 19) 0 1000000000000
  let d := autoscale_clamp.v (rInt (et 33 a) 20) 0 1000000000000
  have hu : 0 ≤ u ∧ u ≤ 1000000000000 := clamp_in _ (by decide)
  have hd : 0 ≤ d ∧ d ≤ 1000000000000 := clamp_in _ (by decide)
  let f : Int × Int → Row → Int × Int := fun x q => (bif iLe (iSub .i64 t u) (rInt q 0) then iMin x.1 (rInt q 1) else x.1, bif iLe (iSub .i64 t d) (rInt q 0) then iMax x.2 (rInt q 1) else x.2)
  have hw : autoscale_target.w3 t (rSl a 26) (et 33 a) (1000000000000000, (-1000000000000000)) = (rSl a 26).foldl f (1000000000000000, (-1000000000000000)) := by
    show walk (autoscale_target.p3 t (et 33 a)) autoscale_target.z3 (rSl a 26) 0 _ = _
    rw [walk_fold f (fun i q x _ => by
      show (bif (iLe (iSub .i64 t u) (rInt q 0)) then (bif (iLe (iSub .i64 t d) (rInt q 0)) then (Sum.inl ((iMin x.1 (rInt q 1)), (iMax x.2 (rInt q 1)))) else (Sum.inl ((iMin x.1 (rInt q 1)), x.2))) else (bif (iLe (iSub .i64 t d) (rInt q 0)) then (Sum.inl (x.1, (iMax x.2 (rInt q 1)))) else (Sum.inl (x.1, x.2))) : (Int × Int) ⊕ (Int × Int)) = _
      simp only [f]
      cases iLe (iSub .i64 t u) (rInt q 0) <;> cases iLe (iSub .i64 t d) (rInt q 0) <;> rfl)]
    rfl
  have key := fold_adv f (fun x y => by
    simp only [f]
    constructor
    · cases iLe (iSub .i64 t u) (rInt y 0)
      · exact Int.le_refl _
      · exact iMin_le_l _ _
    · cases iLe (iSub .i64 t d) (rInt y 0)
      · exact Int.le_refl _
      · exact iMax_ge_l _ _) q (fun x => by
    have e1 : iLe (iSub .i64 t u) (rInt q 0) = true := by
      rw [ht, iSub_in (by omega) (by omega)]
      exact decide_eq_true (by omega)
    have e2 : iLe (iSub .i64 t d) (rInt q 0) = true := by
      rw [ht, iSub_in (by omega) (by omega)]
      exact decide_eq_true (by omega)
    simp only [f, e1, e2]
    exact ⟨iMin_le_r _ _, iMax_ge_r _ _⟩) (rSl a 26) (1000000000000000, (-1000000000000000))
  have hv : autoscale_target.v a r t = (bif (iLt r (autoscale_target.w3 t (rSl a 26) (et 33 a) (1000000000000000, (-1000000000000000))).1) then (autoscale_target.w3 t (rSl a 26) (et 33 a) (1000000000000000, (-1000000000000000))).1 else (bif (iLt (autoscale_target.w3 t (rSl a 26) (et 33 a) (1000000000000000, (-1000000000000000))).2 r) then (autoscale_target.w3 t (rSl a 26) (et 33 a) (1000000000000000, (-1000000000000000))).2 else r)) := rfl
  rw [hv, hw]
  obtain ⟨k1, k2⟩ := key.2.2 hq
  generalize (rSl a 26).foldl f (1000000000000000, (-1000000000000000)) = w at *
  cases h1 : iLt r w.1 with
  | true =>
    have := of_decide_eq_true h1
    exact ⟨fun _ => k1, fun h => by have h : w.1 < r := h; omega⟩
  | false =>
    have := of_decide_eq_false h1
    cases h2 : iLt w.2 r with
    | true =>
      have := of_decide_eq_true h2
      exact ⟨fun h => by have h : r < w.2 := h; omega, fun _ => k2⟩
    | false => exact ⟨fun h => absurd h (Int.lt_irrefl _), fun h => absurd h (Int.lt_irrefl _)⟩
theorem walk_index2 {X R : Type} (c : Row → Bool) {p : Int → Row → X → X ⊕ (Int ⊕ R)} {z : X → Int ⊕ R} (x0 : X) (h : ∀ i q, p i q x0 = bif c q then .inr (.inl i) else .inl x0) (hz : ∀ x, ∃ u, z x = .inr u) : ∀ {es : Rows} {i j : Int}, walk p z es i x0 = .inl j → i ≤ j ∧ ∃ q, es[(j - i).toNat]? = some q ∧ c q = true
  | [], i, j, e => by
    obtain ⟨u, hu⟩ := hz x0
    have e : z x0 = .inl j := e
    rw [hu] at e; cases e
  | q :: es, i, j, e => by
    simp only [walk] at e
    rw [h i q] at e
    cases hc : c q with
    | true =>
      rw [hc] at e
      have e : (Sum.inl i : Int ⊕ R) = .inl j := e
      injection e with e; subst e
      exact ⟨Int.le_refl _, q, by simp, hc⟩
    | false =>
      rw [hc] at e
      have e : walk p z es (i + 1) x0 = .inl j := e
      obtain ⟨h1, y, h2, h3⟩ := walk_index2 c x0 h hz e
      refine ⟨by omega, y, ?_, h3⟩
      have e2 : (j - i).toNat = (j - (i + 1)).toNat + 1 := by omega
      rw [e2, List.getElem?_cons_succ]; exact h2
abbrev DF := slices_DeleteFunc_api_Advice_api_Advice_c21.v
theorem delLast (es : Rows) (q thr : Row) (hb : Brs (es ++ [q])) (hq : autoscale_Step_1.v (et 42 q) [.int .i64 (rInt thr 0)] = false) (hq2 : et 42 q = q) : 1 ≤ (DF (es ++ [q]) thr).2 ∧ (DF (es ++ [q]) thr).1[((DF (es ++ [q]) thr).2 - 1).toNat]? = some q := by
  have hn : rLen (es ++ [q]) = es.length + 1 := by unfold rLen; simp
  have hlen : (es ++ [q]).length = es.length + 1 := by simp
  have hle : rLen (es ++ [q]) ≤ 1048576 := rl_le hb
  have ht : rTake (es ++ [q]) (rLen (es ++ [q])) = es ++ [q] := List.take_of_length_le (by unfold rLen; simp)
  have hlast : (es ++ [q])[es.length]? = some q := by simp
  unfold DF slices_DeleteFunc_api_Advice_api_Advice_c21.v
  dsimp only
  rw [ht]
  have hlt := slices_IndexFunc_api_Advice_api_Advice_c21.lt (es ++ [q]) [.int .i64 (rInt thr 0)]
  have hfound : iEq (slices_IndexFunc_api_Advice_api_Advice_c21.v (es ++ [q]) [.int .i64 (rInt thr 0)]) (-1) = false → 0 ≤ slices_IndexFunc_api_Advice_api_Advice_c21.v (es ++ [q]) [.int .i64 (rInt thr 0)] ∧ slices_IndexFunc_api_Advice_api_Advice_c21.v (es ++ [q]) [.int .i64 (rInt thr 0)] < es.length := by
    intro hne
    have hv : slices_IndexFunc_api_Advice_api_Advice_c21.v (es ++ [q]) [.int .i64 (rInt thr 0)] = Sum.elim (fun r0 => r0) (fun r1 => -1) (walk slices_IndexFunc_api_Advice_api_Advice_c21.p2 slices_IndexFunc_api_Advice_api_Advice_c21.z2 (es ++ [q]) 0 [.int .i64 (rInt thr 0)]) := rfl
    cases hw : walk slices_IndexFunc_api_Advice_api_Advice_c21.p2 slices_IndexFunc_api_Advice_api_Advice_c21.z2 (es ++ [q]) 0 [.int .i64 (rInt thr 0)] with
    | inr u => rw [hv, hw] at hne; cases hne
    | inl j =>
      obtain ⟨h1, y, h2, h3⟩ := walk_index2 (fun y => autoscale_Step_1.v (et 42 y) [.int .i64 (rInt thr 0)]) ([.int .i64 (rInt thr 0)] : Row) (fun i y => by
        show (bif autoscale_Step_1.v (et 42 y) [.int .i64 (rInt thr 0)] then _ else _) = _
        rfl) (fun x => ⟨_, rfl⟩) hw
      rw [hv, hw] at hlt ⊢
      have hlt : j < rLen (es ++ [q]) := hlt
      show 0 ≤ j ∧ j < es.length
      refine ⟨h1, ?_⟩
      by_cases h : j < es.length
      · exact h
      · exfalso
        have e : (j - 0).toNat = es.length := by omega
        rw [e, hlast] at h2
        injection h2 with h2; subst h2
        rw [hq] at h3; cases h3
  generalize slices_IndexFunc_api_Advice_api_Advice_c21.v (es ++ [q]) [.int .i64 (rInt thr 0)] = r0 at *
  cases hne : iEq r0 (-1) with
  | true =>
    show 1 ≤ rLen (es ++ [q]) ∧ (es ++ [q])[(rLen (es ++ [q]) - 1).toNat]? = some q
    refine ⟨by omega, ?_⟩
    have e : (rLen (es ++ [q]) - 1).toNat = es.length := by omega
    rw [e]; exact hlast
  | false =>
    obtain ⟨h0, h1⟩ := hfound hne
    have e1 : iAdd .i64 r0 1 = r0 + 1 := iAdd_one h0 (by omega)
    rw [e1]
    have hw : (fun (r : Int × Rows) => 1 ≤ r.1 ∧ r.2[(r.1 - 1).toNat]? = some q) (slices_DeleteFunc_api_Advice_api_Advice_c21.w5 (rLen (es ++ [q])) ([.int .i64 (rInt thr 0)], r0, es ++ [q]) (r0 + 1)) := by
      refine walk_ind (rLen (es ++ [q])) (fun (i : Int) (x : Row × Int × Rows) => x.1 = [.int .i64 (rInt thr 0)] ∧ (0 ≤ x.2.1 ∧ x.2.1 < i) ∧ x.2.2.length = es.length + 1 ∧ 0 ≤ i ∧ (∀ m : Nat, i ≤ m → x.2.2[m]? = (es ++ [q])[m]?) ∧ (i = rLen (es ++ [q]) → 1 ≤ x.2.1 ∧ x.2.2[(x.2.1 - 1).toNat]? = some q)) (fun (r : Int × Rows) => 1 ≤ r.1 ∧ r.2[(r.1 - 1).toNat]? = some q) (fun i y x hi hx => ?_) (fun x hx => hx.2.2.2.2.2 rfl) ?_ ?_
      · obtain ⟨x1, x2, x3⟩ := x
        obtain ⟨g1, ⟨g2, g3⟩, g4, g5, g6, g7⟩ := hx
        simp only at g1 g2 g3 g4 g6 g7
        subst g1
        have hat : rAt x3 i = rAt (es ++ [q]) i := by
          unfold rAt
          rw [List.getD_eq_getElem?_getD, List.getD_eq_getElem?_getD, g6 i.toNat (by omega)]
        have e2 : iAdd .i64 x2 1 = x2 + 1 := iAdd_one g2 (by omega)
        have step : slices_DeleteFunc_api_Advice_api_Advice_c21.p5 i y ([.int .i64 (rInt thr 0)], x2, x3) = (bif (bNot (autoscale_Step_1.v (et 42 (rAt x3 i)) [.int .i64 (rInt thr 0)])) then (.inl ([.int .i64 (rInt thr 0)], (iAdd .i64 x2 1), (rSet x3 x2 (et 42 (rAt x3 i))))) else (.inl ([.int .i64 (rInt thr 0)], x2, x3))) := rfl
        rw [step, e2]
        have hlastAt : i + 1 = rLen (es ++ [q]) → rAt x3 i = q := by
          intro e
          rw [hat]
          unfold rAt
          have : i.toNat = es.length := by omega
          rw [List.getD_eq_getElem?_getD, this, hlast]; rfl
        cases hs : autoscale_Step_1.v (et 42 (rAt x3 i)) [.int .i64 (rInt thr 0)] with
        | true =>
          refine Or.inl ⟨_, rfl, rfl, ⟨g2, by show x2 < i + 1; omega⟩, g4, by omega, fun m hm => g6 m (by omega), fun e => ?_⟩
          rw [hlastAt e, hq] at hs; cases hs
        | false =>
          refine Or.inl ⟨_, rfl, rfl, ⟨by show 0 ≤ x2 + 1; omega, by show x2 + 1 < i + 1; omega⟩, ?_, by omega, fun m hm => ?_, fun e => ?_⟩
          · show (rSet x3 x2 _).length = _
            unfold rSet; rw [List.length_set]; exact g4
          · show (rSet x3 x2 _)[m]? = _
            unfold rSet
            rw [List.getElem?_set, if_neg (by omega)]
            exact g6 m (by omega)
          · show 1 ≤ x2 + 1 ∧ (rSet x3 x2 (et 42 (rAt x3 i)))[(x2 + 1 - 1).toNat]? = some q
            refine ⟨by omega, ?_⟩
            have e3 : (x2 + 1 - 1).toNat = x2.toNat := by omega
            rw [e3]
            unfold rSet
            rw [List.getElem?_set, if_pos rfl, if_pos (by omega), hlastAt e, hq2]
      · have : rLen ((nRows (rLen (es ++ [q]))).drop (r0 + 1).toNat) = rLen (es ++ [q]) - (r0 + 1) := by
          unfold rLen nRows
          rw [List.length_drop, List.length_replicate]; simp; omega
        rw [this]; omega
      · refine ⟨rfl, ⟨h0, by show r0 < r0 + 1; omega⟩, hlen, by omega, fun m _ => rfl, fun e => ?_⟩
        exfalso; omega
    generalize slices_DeleteFunc_api_Advice_api_Advice_c21.w5 (rLen (es ++ [q])) ([.int .i64 (rInt thr 0)], r0, es ++ [q]) (r0 + 1) = r1 at *
    obtain ⟨k1, k2⟩ := hw
    show 1 ≤ r1.1 ∧ (rFill r1.2 r1.1 _ _)[(r1.1 - 1).toNat]? = some q
    refine ⟨k1, ?_⟩
    unfold rFill
    rw [List.getElem?_mapIdx, k2]
    show some (if _ then _ else q) = _
    rw [if_neg (by omega)]
/-- The autoscaler, its lists copied. -/
def rowS (a : Row) (ms adv : Rows) (sc : Int) : Row := rJ [[.str (rStr a 0), .str (rStr a 1), .str (rStr a 2), .int .i64 (rInt a 3), .int .i64 (rInt a 4), .int .i64 (rInt a 5), .int .i64 (rInt a 6)], eo 30 a 7, [.slice 94 (rSl a 9) .open, .slice 96 (rSl a 10) .open, .slice 9 (rSl a 11) .open, .slice 98 (rSl a 12) .open, .str (rStr a 13), .str (rStr a 14), .int .i64 (rInt a 15), .int .i64 (rInt a 16), .slice 59 ms .open, .int .i64 (rInt a 18), .int .i64 (rInt a 19), .int .i64 (rInt a 20)], eo 30 a 21, eo 30 a 23, [.int .i64 (rInt a 25), .slice 42 adv .open, .int .i64 sc]]
def upS (a : Row) (r : Int) : Int := quantity_Resolve.v (eo 30 a 21) r true
def dnS (a : Row) (r : Int) : Int := quantity_Resolve.v (eo 30 a 23) r true
def waitS (a : Row) (t : Int) : Bool := bIte (iLt 0 (rInt a 27)) (iLt t (iAdd .i64 (bif (iLt 0 (rInt a 27)) then (autoscale_clamp.v (rInt a 27) 0 1000000000000) else default) (bif (iLt 0 (rInt a 27)) then (autoscale_clamp.v (rInt a 25) 0 1000000000000) else default))) false
def bodyS (a : Row) (ms adv : Rows) (r t w : Int) : Row × Int :=
  bif (bNot (iEq w r)) then (bif waitS a t then (rowS a ms adv (rInt a 27), r) else (bif (bNot (iEq (autoscale_clamp.v w (iSub .i64 r (dnS a r)) (iAdd .i64 r (upS a r))) r)) then (rowS a ms adv t, autoscale_clamp.v w (iSub .i64 r (dnS a r)) (iAdd .i64 r (upS a r))) else (rowS a ms adv (rInt a 27), autoscale_clamp.v w (iSub .i64 r (dnS a r)) (iAdd .i64 r (upS a r)))))
  else (bif (bNot (iEq w r)) then (rowS a ms adv t, w) else (rowS a ms adv (rInt a 27), w))
theorem scaled_row (a : Row) (ms adv : Rows) (sc : Int) : rInt (rowS a ms adv sc) 27 = sc := by kernel_rfl
theorem lo_row (a : Row) (ms adv : Rows) (sc : Int) : loA (rowS a ms adv sc) = loA a := by kernel_rfl
theorem hi_row (a : Row) (ms adv : Rows) (sc : Int) : hiA (rowS a ms adv sc) = hiA a := by kernel_rfl
theorem adv_row (a : Row) (ms adv : Rows) (sc : Int) : rSl (rowS a ms adv sc) 26 = adv := by kernel_rfl
theorem resolveB (m : Row) (t : Int) (ht : 0 ≤ t ∧ t ≤ 40) : 0 ≤ quantity_Resolve.v m t true ∧ quantity_Resolve.v m t true ≤ 1000000000000000 := by
  unfold quantity_Resolve.v
  dsimp only
  have hc : 0 ≤ quantity_clamp.v (rInt m 1) ∧ quantity_clamp.v (rInt m 1) ≤ 1000000000000000 := clamp_in (rInt m 1) (lo := 0) (hi := 1000000000000000) (by decide)
  have ht2 : quantity_clamp.v t = t := clamp_id (lo := 0) (hi := 1000000000000000) ⟨ht.1, by omega⟩
  rw [ht2]
  generalize quantity_clamp.v (rInt m 1) = n at *
  have e1 : iQuo .i64 t 100 = 0 := by
    unfold iQuo
    rw [Int.tdiv_eq_zero_of_lt ht.1 (by omega)]; rfl
  have e2 : iRem t 100 = t := by unfold iRem; exact Int.tmod_eq_of_lt ht.1 (by omega)
  have h0 : 0 ≤ t * n := Int.mul_nonneg ht.1 hc.1
  have h1 : t * n ≤ 40 * 1000000000000000 := Int.le_trans (Int.mul_le_mul_of_nonneg_right ht.2 hc.1) (Int.mul_le_mul_of_nonneg_left hc.2 (by decide))
  have e3 : iMul .i64 t n = t * n := iMul_in (by omega) (by omega)
  have e4 : iMul .i64 0 n = 0 := by rw [iMul_in (by omega) (by omega)]; omega
  have e5 : iAdd .i64 (t * n) 99 = t * n + 99 := iAdd_in (by omega) (by omega)
  rw [e1, e2, e3, e4, e5]
  have h2 : 0 ≤ (t * n + 99).tdiv 100 := Int.tdiv_nonneg (by omega) (by decide)
  have h3 : (t * n + 99).tdiv 100 ≤ t * n + 99 := by rw [Int.tdiv_eq_ediv_of_nonneg (by omega)]; omega
  have e6 : iQuo .i64 (t * n + 99) 100 = (t * n + 99).tdiv 100 := by unfold iQuo; exact IntWalk.i64_in _ (by omega)
  rw [e6, iAdd_in (by omega) (by omega)]
  generalize (t * n + 99).tdiv 100 = k at *
  have hm : 0 ≤ iMin (0 + k) 1000000000000000 ∧ iMin (0 + k) 1000000000000000 ≤ 1000000000000000 := by
    unfold iMin; split <;> omega
  cases rBool m 0 with
  | false => exact hc
  | true => exact hm
theorem bodyB (a : Row) (ms adv : Rows) (r t w d : Int) (hr : 1 ≤ r ∧ r ≤ 40) (hw : (r < w → w ≤ d) ∧ (w < r → d ≤ w)) (hd : loA a ≤ d ∧ d ≤ hiA a) :
    ((loA a ≤ r ∧ r ≤ hiA a) → loA a ≤ (bodyS a ms adv r t w).2 ∧ (bodyS a ms adv r t w).2 ≤ hiA a) ∧ (r - dnS a r ≤ (bodyS a ms adv r t w).2 ∧ (bodyS a ms adv r t w).2 ≤ r + upS a r) ∧
    ((bodyS a ms adv r t w).2 = r → rInt (bodyS a ms adv r t w).1 27 = rInt a 27) ∧ ((bodyS a ms adv r t w).2 ≠ r → rInt (bodyS a ms adv r t w).1 27 = t) := by
  obtain ⟨u1, u2⟩ := resolveB (eo 30 a 21) r ⟨by omega, hr.2⟩
  obtain ⟨d1, d2⟩ := resolveB (eo 30 a 23) r ⟨by omega, hr.2⟩
  have u1 : 0 ≤ upS a r := u1
  have u2 : upS a r ≤ 1000000000000000 := u2
  have d1 : 0 ≤ dnS a r := d1
  have d2 : dnS a r ≤ 1000000000000000 := d2
  unfold bodyS
  cases hwr : iEq w r with
  | true =>
    have e := iEq_iff.1 hwr
    subst e
    refine ⟨fun h => h, ⟨by show w - _ ≤ w; omega, by show w ≤ w + _; omega⟩, fun _ => scaled_row _ _ _ _, fun h => absurd rfl h⟩
  | false =>
    cases hwt : waitS a t with
    | true => exact ⟨fun h => h, ⟨by show r - _ ≤ r; omega, by show r ≤ r + _; omega⟩, fun _ => scaled_row _ _ _ _, fun h => absurd rfl h⟩
    | false =>
      rw [iSub_in (by omega) (by omega), iAdd_in (by omega) (by omega)]
      have hcl := clamp_in w (lo := r - dnS a r) (hi := r + upS a r) (by omega)
      have hmid : (loA a ≤ r ∧ r ≤ hiA a) → loA a ≤ iMin (iMax w (r - dnS a r)) (r + upS a r) ∧ iMin (iMax w (r - dnS a r)) (r + upS a r) ≤ hiA a := by
        intro h
        obtain ⟨w1, w2⟩ := hw
        unfold iMin iMax
        split <;> split <;> omega
      have e : autoscale_clamp.v w (r - dnS a r) (r + upS a r) = iMin (iMax w (r - dnS a r)) (r + upS a r) := rfl
      rw [e]
      generalize iMin (iMax w (r - dnS a r)) (r + upS a r) = x at *
      cases hx : iEq x r with
      | true =>
        have e := iEq_iff.1 hx
        exact ⟨hmid, hcl, fun _ => scaled_row _ _ _ _, fun h => absurd e h⟩
      | false =>
        refine ⟨hmid, hcl, fun h => ?_, fun _ => scaled_row _ _ _ _⟩
        have h : x = r := h
        rw [iEq_iff.2 h] at hx; cases hx
def msS (a : Row) : Rows := slices_Clone_api_Metric_api_Metric.v (rSl a 17)
def ad0 (a : Row) : Rows := rTake (slices_Clone_api_Advice_api_Advice.vm (rSl a 26)).1 (slices_Clone_api_Advice_api_Advice.vm (rSl a 26)).2
def dS (a : Row) (r : Int) (p l : Rows) : Int := autoscale_Desired.v (rowS a (msS a) (ad0 a) (rInt a 27)) r p l
def qS (t d : Int) : Row := [.int .i64 t, .int .i64 d]
def thrS (a : Row) (t : Int) : Row := [.int .i64 (iSub .i64 t (iMax (autoscale_clamp.v (rInt a 19) 0 1000000000000) (autoscale_clamp.v (rInt a 20) 0 1000000000000)))]
def delS (a : Row) (t d : Int) : Rows × Int := DF (rTake (rCat (ad0 a) [qS t d]) (rLen (rCat (ad0 a) [qS t d]))) (thrS a t)
def cutS49 (x : Rows × Int) : Rows := rCut x.1 (iSub .i64 x.2 64) (iPlus (iSub .i64 x.2 64) (iMinus x.2 (iSub .i64 x.2 64)))
theorem stepE (a : Row) (r : Int) (p l : Rows) (t0 : Int) : autoscale_Step.v a r p l t0 = (bif (iEq (autoscale_clamp.v r 0 40) 0) then (rowS a (msS a) (ad0 a) (rInt a 27), 0) else
    (bif (iLt 64 (delS a (autoscale_clamp.v t0 0 1000000000000) (dS a r p l)).2)
      then bodyS a (msS a) (cutS49 (delS a (autoscale_clamp.v t0 0 1000000000000) (dS a r p l))) (autoscale_clamp.v r 0 40) (autoscale_clamp.v t0 0 1000000000000) (autoscale_target.v (rowS a (msS a) (cutS49 (delS a (autoscale_clamp.v t0 0 1000000000000) (dS a r p l))) (rInt a 27)) (autoscale_clamp.v r 0 40) (autoscale_clamp.v t0 0 1000000000000))
      else bodyS a (msS a) (rTake (delS a (autoscale_clamp.v t0 0 1000000000000) (dS a r p l)).1 (delS a (autoscale_clamp.v t0 0 1000000000000) (dS a r p l)).2) (autoscale_clamp.v r 0 40) (autoscale_clamp.v t0 0 1000000000000) (autoscale_target.v (rowS a (msS a) (rTake (delS a (autoscale_clamp.v t0 0 1000000000000) (dS a r p l)).1 (delS a (autoscale_clamp.v t0 0 1000000000000) (dS a r p l)).2) (rInt a 27)) (autoscale_clamp.v r 0 40) (autoscale_clamp.v t0 0 1000000000000)))) := by kernel_rfl
theorem stepB (a : Row) (r : Int) (p l : Rows) (t0 : Int) (hr : 1 ≤ r ∧ r ≤ 40) (ha : Brs (rSl a 26)) (hA : rLen (rSl a 26) ≤ 1048575) :
    ((loA a ≤ r ∧ r ≤ hiA a) → loA a ≤ (autoscale_Step.v a r p l t0).2 ∧ (autoscale_Step.v a r p l t0).2 ≤ hiA a) ∧ (r - dnS a r ≤ (autoscale_Step.v a r p l t0).2 ∧ (autoscale_Step.v a r p l t0).2 ≤ r + upS a r) ∧
    ((autoscale_Step.v a r p l t0).2 = r → rInt (autoscale_Step.v a r p l t0).1 27 = rInt a 27) ∧ ((autoscale_Step.v a r p l t0).2 ≠ r → rInt (autoscale_Step.v a r p l t0).1 27 = iMin (iMax t0 0) 1000000000000) := by
  have e1 : autoscale_clamp.v r 0 40 = r := clamp_id ⟨by omega, hr.2⟩
  have e2 : iEq r 0 = false := by
    cases hq : iEq r 0 with
    | false => rfl
    | true => have := iEq_iff.1 hq; omega
  have ht : 0 ≤ autoscale_clamp.v t0 0 1000000000000 ∧ autoscale_clamp.v t0 0 1000000000000 ≤ 1000000000000 := clamp_in t0 (by decide)
  rw [stepE, e1, e2]
  show ((loA a ≤ r ∧ r ≤ hiA a) → _) ∧ _ ∧ _ ∧ (_ → _ = autoscale_clamp.v t0 0 1000000000000)
  have hd := desiredB (rowS a (msS a) (ad0 a) (rInt a 27)) r p l hr
  rw [lo_row, hi_row] at hd
  have hd : loA a ≤ dS a r p l ∧ dS a r p l ≤ hiA a := hd
  generalize dS a r p l = d at *
  generalize autoscale_clamp.v t0 0 1000000000000 = t at *
  have had : ad0 a = rSl a 26 := List.take_of_length_le (by show (rSl a 26).length ≤ (rLen (rSl a 26)).toNat; unfold rLen; simp)
  have hX : rTake (rCat (ad0 a) [qS t d]) (rLen (rCat (ad0 a) [qS t d])) = rSl a 26 ++ [qS t d] := by
    rw [had]
    exact List.take_of_length_le (by unfold rLen rCat; simp)
  have hbr : Brs (rSl a 26 ++ [qS t d]) := brs_push ha (br_cons brc_int (br_cons brc_int br_nil)) hA
  have hu : 0 ≤ autoscale_clamp.v (rInt a 19) 0 1000000000000 ∧ autoscale_clamp.v (rInt a 19) 0 1000000000000 ≤ 1000000000000 := clamp_in _ (by decide)
  have hv : 0 ≤ autoscale_clamp.v (rInt a 20) 0 1000000000000 ∧ autoscale_clamp.v (rInt a 20) 0 1000000000000 ≤ 1000000000000 := clamp_in _ (by decide)
  have hdel : delS a t d = DF (rSl a 26 ++ [qS t d]) (thrS a t) := by unfold delS; rw [hX]
  have hlast := delLast (rSl a 26) (qS t d) (thrS a t) hbr (by
    show iLt t (iSub .i64 t (iMax _ _)) = false
    have h1 : 0 ≤ iMax (autoscale_clamp.v (rInt a 19) 0 1000000000000) (autoscale_clamp.v (rInt a 20) 0 1000000000000) ∧ iMax (autoscale_clamp.v (rInt a 19) 0 1000000000000) (autoscale_clamp.v (rInt a 20) 0 1000000000000) ≤ 1000000000000 := by
      unfold iMax; split <;> omega
    rw [iSub_in (by omega) (by omega)]
    exact decide_eq_false (by omega)) (by kernel_rfl)
  have hle := slices_DeleteFunc_api_Advice_api_Advice_c21.le (rSl a 26 ++ [qS t d]) (thrS a t) hbr
  have hle2 := rl_le hbr
  rw [← hdel] at hlast
  have hle : 0 ≤ (delS a t d).2 ∧ (delS a t d).2 ≤ rLen (rSl a 26 ++ [qS t d]) := by rw [hdel]; exact hle
  generalize delS a t d = x at *
  obtain ⟨l1, l2⟩ := hlast
  have fin : ∀ adv, qS t d ∈ adv → _ := fun adv hm => bodyB a (msS a) adv r t (autoscale_target.v (rowS a (msS a) adv (rInt a 27)) r t) d hr (targetB (rowS a (msS a) adv (rInt a 27)) r t (qS t d) (by rw [adv_row]; exact hm) rfl ht) hd
  cases h64 : iLt 64 x.2 with
  | true =>
    have h64 := of_decide_eq_true h64
    refine fin _ ?_
    unfold cutS49
    have e3 : iSub .i64 x.2 64 = x.2 - 64 := iSub_in (by omega) (by omega)
    rw [e3]
    have e4 : iPlus (x.2 - 64) (iMinus x.2 (x.2 - 64)) = x.2 := by unfold iPlus iMinus; omega
    rw [e4]
    refine List.mem_of_getElem? (i := 63) ?_
    unfold rCut
    rw [List.getElem?_drop, List.getElem?_take, if_pos (by omega)]
    have e5 : (x.2 - 64).toNat + 63 = (x.2 - 1).toNat := by omega
    rw [e5]; exact l2
  | false =>
    refine fin _ ?_
    refine List.mem_of_getElem? (i := (x.2 - 1).toNat) ?_
    unfold rTake
    rw [List.getElem?_take, if_pos (by omega)]
    exact l2
theorem autoscaleBoundsV (a : Row) (r : Int) (p l : Rows) (t0 : Int) (ha : Br a) : law49_AutoscaleBounds.v a r p l t0 = true := by
  have hlives : law49_lives.v = true := by kernel_rfl
  unfold law49_AutoscaleBounds.v
  dsimp only
  cases hs : law49_Small.v (et 33 a) p l with
  | false => exact hlives
  | true =>
    have h1 : iLt r 1 = true ∨ iLt r 1 = false := by cases iLt r 1 <;> simp
    rcases h1 with h1 | h1
    · rw [h1]; exact hlives
    · have h2 : iLt 40 r = true ∨ iLt 40 r = false := by cases iLt 40 r <;> simp
      rcases h2 with h2 | h2
      · rw [h1, h2]; exact hlives
      · rw [h1, h2]
        have hr : 1 ≤ r ∧ r ≤ 40 := ⟨Int.not_lt.1 (of_decide_eq_false h1), Int.not_lt.1 (of_decide_eq_false h2)⟩
        have hd := desiredB (et 33 a) r p l hr
        have hS := stepB (et 33 a) r p l t0 hr (Br.sl (Br.eta ha _) _) (small_advice hs)
        obtain ⟨u1, u2⟩ := resolveB (eo 30 (et 33 a) 21) r ⟨by omega, hr.2⟩
        obtain ⟨d1, d2⟩ := resolveB (eo 30 (et 33 a) 23) r ⟨by omega, hr.2⟩
        have eu : ref01_Resolve.v (eo 30 a 21) r true = upS (et 33 a) r := by kernel_rfl
        have ed : ref01_Resolve.v (eo 30 a 23) r true = dnS (et 33 a) r := by kernel_rfl
        have elo : iMin (iMax (rInt a 15) 0) 40 = loA (et 33 a) := by kernel_rfl
        have ehi : iMin (iMax (rInt a 16) (loA (et 33 a))) 40 = hiA (et 33 a) := by kernel_rfl
        have esc : rInt a 27 = rInt (et 33 a) 27 := by kernel_rfl
        have u1 : 0 ≤ upS (et 33 a) r := u1
        have u2 : upS (et 33 a) r ≤ 1000000000000000 := u2
        have d1 : 0 ≤ dnS (et 33 a) r := d1
        have d2 : dnS (et 33 a) r ≤ 1000000000000000 := d2
        rw [eu, ed, elo, ehi, esc, hlives]
        generalize autoscale_Desired.v (et 33 a) r p l = dd at *
        generalize autoscale_Step.v (et 33 a) r p l t0 = st at *
        generalize hL : law49_AutoscaleBounds.w11 _ _ _ _ = inn
        have hin : inn = true → loA (et 33 a) ≤ r ∧ r ≤ hiA (et 33 a) := by
          intro hi
          rw [← hL] at hi
          have hw : ∀ (es : Rows) (i : Int) (x : Bool), walk (law49_AutoscaleBounds.p11 (loA (et 33 a)) (hiA (et 33 a))) law49_AutoscaleBounds.z11 es i x = true → x = true := by
            intro es
            induction es with
            | nil => intro i x h; exact h
            | cons q es ih =>
              intro i x h
              have := ih (i + 1) _ h
              exact and_l (and_l this)
          have h3 := hw _ _ _ hi
          exact ⟨of_decide_eq_true (and_l h3), of_decide_eq_true (and_r h3)⟩
        obtain ⟨s1, s2, s3, s4⟩ := hS
        have t1 : iLt dd (loA (et 33 a)) = false := decide_eq_false (by omega)
        have t2 : iLt (hiA (et 33 a)) dd = false := decide_eq_false (by omega)
        rw [t1, t2]
        have t3 : bIte inn (bIte (iLt st.2 (loA (et 33 a))) true (iLt (hiA (et 33 a)) st.2)) false = false := by
          cases inn with
          | false => rfl
          | true =>
            obtain ⟨k1, k2⟩ := s1 (hin rfl)
            have v1 : iLt st.2 (loA (et 33 a)) = false := decide_eq_false (by omega)
            have v2 : iLt (hiA (et 33 a)) st.2 = false := decide_eq_false (by omega)
            rw [v1, v2]; rfl
        have t4 : iLt (iAdd .i64 r (upS (et 33 a) r)) st.2 = false := by
          rw [iAdd_in (by omega) (by omega)]; exact decide_eq_false (by omega)
        have t5 : iLt st.2 (iSub .i64 r (dnS (et 33 a) r)) = false := by
          rw [iSub_in (by omega) (by omega)]; exact decide_eq_false (by omega)
        show (bif bIte inn _ false then false else _) = true
        rw [t3, t4]
        show (bif (bIte false true (iLt st.2 (iSub .i64 r (dnS (et 33 a) r)))) then false else _) = true
        rw [t5]
        cases hq : iEq st.2 r with
        | true =>
          have := s3 (iEq_iff.1 hq)
          show bIte (iEq (rInt st.1 27) _) _ false = true
          rw [iEq_iff.2 this]; rfl
        | false =>
          have := s4 (fun e => by rw [iEq_iff.2 e] at hq; cases hq)
          show bIte (iEq (rInt st.1 27) _) _ false = true
          rw [iEq_iff.2 this]; rfl
theorem law49_AutoscaleBounds.true_ (a : Row) (r : Int) (p l : Rows) (t0 : Int) (ha : Br a) (hp : Brs p) (hl : Brs l) : D (fun k => (law49_AutoscaleBounds.f k a r p l t0).eval) (fun u => u = true) := (law49_AutoscaleBounds.val a r p l t0 ha hp hl).true_ (autoscaleBoundsV a r p l t0 ha)
end
end Go.Proofs.Ytbmpglgnoaildaa.Ev
