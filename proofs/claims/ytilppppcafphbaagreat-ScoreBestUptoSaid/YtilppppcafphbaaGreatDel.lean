/- slices.DeleteFunc as a filter. Conditions: stated at each. -/
import Derived.Test.YtilppppcafphbaaGreatWk
namespace Go.Proofs.YtilppppcafphbaaGreat.Ev
open Go Go.RowKit
set_option linter.unusedVariables false
set_option linter.unusedSimpArgs false
theorem walk_first {X R : Type} (c : Row → Bool) {p : Int → Row → X → X ⊕ (Int ⊕ R)} {z : X → Int ⊕ R} (x0 : X) (h : ∀ i q, p i q x0 = bif c q then .inr (.inl i) else .inl x0) : ∀ (es : Rows) (i : Int),
    (walk p z es i x0 = z x0 ∧ ∀ q, q ∈ es → c q = false) ∨ ∃ pre d suf, es = pre ++ d :: suf ∧ walk p z es i x0 = .inl (i + pre.length) ∧ c d = true ∧ ∀ q, q ∈ pre → c q = false
  | [], i => Or.inl ⟨rfl, fun q h => by cases h⟩
  | q :: es, i => by
    simp only [walk]
    rw [h i q]
    cases hc : c q with
    | true => exact Or.inr ⟨[], q, es, rfl, by simp, hc, fun q h => by cases h⟩
    | false =>
      show (walk p z es (i + 1) x0 = z x0 ∧ _) ∨ ∃ pre d suf, _ ∧ walk p z es (i + 1) x0 = _ ∧ _
      rcases walk_first c x0 h es (i + 1) with ⟨h1, h2⟩ | ⟨pre, d, suf, h1, h2, h3, h4⟩
      · refine Or.inl ⟨h1, fun y hy => ?_⟩
        rcases List.mem_cons.1 hy with rfl | hy
        · exact hc
        · exact h2 y hy
      · refine Or.inr ⟨q :: pre, d, suf, by rw [h1]; rfl, ?_, h3, fun y hy => ?_⟩
        · rw [h2, List.length_cons]; congr 1; omega
        · rcases List.mem_cons.1 hy with rfl | hy
          · exact hc
          · exact h4 y hy
theorem del_walk {α C : Type} {p : Int → Row → C × Int × Rows → (C × Int × Rows) ⊕ (Int × Rows)} {z : C × Int × Rows → Int × Rows} (del : Row → Bool) (e : Row → Row) (g : Row → α) (c : C)
    (hp : ∀ i q n xs, p i q (c, n, xs) = bif bNot (del (rAt xs i)) then .inl (c, iAdd .i64 n 1, rSet xs n (e (rAt xs i))) else .inl (c, n, xs)) (hz : ∀ n xs, z (c, n, xs) = (n, xs)) (hg : ∀ q, g (e q) = g q) (es : Rows) (hN : es.length ≤ 1048576) :
    ∀ (l : Rows) (i n : Nat) (xs : Rows), i + l.length = es.length → xs.length = es.length → n ≤ i → (xs.take n).map g = ((es.take i).filter (fun q => !del q)).map g → xs.drop i = es.drop i →
      ∃ (n' : Nat) (xs' : Rows), walk p z l (i : Int) (c, (n : Int), xs) = ((n' : Int), xs') ∧ (xs'.take n').map g = (es.filter (fun q => !del q)).map g
  | [], i, n, xs, hi, hx, hn, h1, h2 => by
    refine ⟨n, xs, hz _ _, ?_⟩
    have : i = es.length := by simpa using hi
    rw [h1, this, List.take_length]
  | y :: l, i, n, xs, hi, hx, hn, h1, h2 => by
    have hlt : i < es.length := by rw [← hi]; simp
    have hq : xs[i]? = es[i]? := by
      have : (xs.drop i)[0]? = (es.drop i)[0]? := by rw [h2]
      simpa using this
    have hq2 : es[i]? = some es[i] := List.getElem?_eq_getElem hlt
    have hat : rAt xs (i : Int) = es[i] := by
      show xs.getD (Int.toNat (i : Int)) [] = _
      rw [Int.toNat_natCast, List.getD_eq_getElem?_getD, hq, hq2]; rfl
    have ht : es.take (i + 1) = es.take i ++ [es[i]] := by rw [List.take_add_one, hq2]; rfl
    have hd : xs.drop (i + 1) = es.drop (i + 1) := by rw [← List.drop_drop, ← List.drop_drop, h2]
    simp only [walk]
    rw [hp, hat]
    cases hc : del es[i] with
    | true =>
      have := del_walk del e g c hp hz hg es hN l (i + 1) n xs (by rw [← hi, List.length_cons]; omega) hx (by omega) (by
        rw [ht, List.filter_append, h1]
        have : [es[i]].filter (fun q => !del q) = [] := by simp [hc]
        rw [this, List.append_nil]) hd
      exact this
    | false =>
      have e1 : iAdd .i64 (n : Int) 1 = ((n + 1 : Nat) : Int) := by rw [iAdd_one (by omega) (by omega)]; rfl
      have hs : rSet xs (n : Int) (e es[i]) = xs.set n (e es[i]) := by
        show xs.set (Int.toNat (n : Int)) _ = _
        rw [Int.toNat_natCast]
      have := del_walk del e g c hp hz hg es hN l (i + 1) (n + 1) (xs.set n (e es[i])) (by rw [← hi, List.length_cons]; omega) (by rw [List.length_set]; exact hx) (by omega) (by
        rw [ht, List.filter_append, List.map_append, ← h1, List.take_add_one]
        have h3 : (xs.set n (e es[i])).take n = xs.take n := by
          apply List.ext_getElem?
          intro j
          rw [List.getElem?_take, List.getElem?_take]
          split
          · rw [List.getElem?_set_ne (by omega)]
          · rfl
        have h4 : (xs.set n (e es[i]))[n]? = some (e es[i]) := List.getElem?_set_self (by omega)
        rw [h3, h4]
        have : [es[i]].filter (fun q => !del q) = [es[i]] := by simp [hc]
        rw [this, List.map_append]
        show _ ++ [g (e es[i])] = _
        rw [hg]; rfl) (by
        rw [← hd]
        apply List.ext_getElem?
        intro j
        rw [List.getElem?_drop, List.getElem?_drop, List.getElem?_set_ne (by omega)])
      show ∃ (n' : Nat) (xs' : Rows), walk p z l ((i : Int) + 1) (c, iAdd .i64 (n : Int) 1, rSet xs (n : Int) (e es[i])) = _ ∧ _
      rw [e1, hs]
      exact this
theorem take_fill (xs : Rows) (n h : Int) (r : Row) : rTake (rFill xs n h r) n = rTake xs n := by
  unfold rTake rFill
  apply List.ext_getElem?
  intro j
  rw [List.getElem?_take, List.getElem?_take]
  split
  · rename_i hj
    rw [List.getElem?_mapIdx]
    have : ∀ q : Row, (if n.toNat ≤ j ∧ j < h.toNat then r else q) = q := fun q => if_neg (by omega)
    simp only [this]
    cases xs[j]? <;> rfl
  · rfl
/-- The whole: where the first is found, and the walk from there on. -/
theorem del_rest {α C : Type} {p : Int → Row → C × Int × Rows → (C × Int × Rows) ⊕ (Int × Rows)} {z : C × Int × Rows → Int × Rows} (del : Row → Bool) (e : Row → Row) (g : Row → α) (c : C)
    (hp : ∀ i q n xs, p i q (c, n, xs) = bif bNot (del (rAt xs i)) then .inl (c, iAdd .i64 n 1, rSet xs n (e (rAt xs i))) else .inl (c, n, xs)) (hz : ∀ n xs, z (c, n, xs) = (n, xs)) (hg : ∀ q, g (e q) = g q) {es pre suf : Rows} {d : Row} (hN : es.length ≤ 1048576)
    (he : es = pre ++ d :: suf) (hd : del d = true) (hpre : ∀ q, q ∈ pre → del q = false) (h : Int) (r : Row) :
    (let r1 := walk p z ((nRows (rLen es)).drop (iAdd .i64 (pre.length : Int) 1).toNat) (iAdd .i64 (pre.length : Int) 1) (c, (pre.length : Int), es); (rTake (rFill r1.2 r1.1 (h + r1.1) r) r1.1).map g) = (es.filter (fun q => !del q)).map g := by
  have hl : pre.length < es.length := by rw [he]; simp
  have e1 : iAdd .i64 (pre.length : Int) 1 = ((pre.length + 1 : Nat) : Int) := by rw [iAdd_one (by omega) (by omega)]; rfl
  have hn : ((nRows (rLen es)).drop (pre.length + 1)).length + (pre.length + 1) = es.length := by
    unfold nRows rLen
    rw [List.length_drop, List.length_replicate]; omega
  obtain ⟨n', xs', hw, hr⟩ := del_walk del e g c hp hz hg es hN ((nRows (rLen es)).drop (pre.length + 1)) (pre.length + 1) pre.length es (by omega) rfl (by omega) (by
    rw [he]
    have h1 : (pre ++ d :: suf).take pre.length = pre := by simp
    have h2 : (pre ++ d :: suf).take (pre.length + 1) = pre ++ [d] := by
      rw [List.take_append, List.take_of_length_le (by omega)]; simp
    rw [h1, h2, List.filter_append]
    have h3 : [d].filter (fun q => !del q) = [] := by simp [hd]
    have h4 : pre.filter (fun q => !del q) = pre := List.filter_eq_self.2 (fun q hq => by rw [hpre q hq]; rfl)
    rw [h3, h4, List.append_nil]) rfl
  dsimp only
  rw [e1, Int.toNat_natCast, hw, take_fill]
  show ((xs'.take (Int.toNat (n' : Int))).map g) = _
  rw [Int.toNat_natCast]; exact hr
end Go.Proofs.YtilppppcafphbaaGreat.Ev
