/- Walks over rows as operations on lists. Conditions: stated at each. -/
import Derived.Test.YtolackmpfnndhaaGreatDoorPw
namespace Go.Proofs.YtolackmpfnndhaaGreatDoor.Ev
open Go Go.RowKit
set_option linter.unusedVariables false
set_option linter.unusedSimpArgs false
section
variable {X Y R S : Type}
theorem walk_congr {p p' : Int → Row → X → X ⊕ R} {z z' : X → R} : ∀ {es : Rows} {i : Int} {x : X}, (∀ i q x, q ∈ es → p i q x = p' i q x) → (∀ x, z x = z' x) → walk p z es i x = walk p' z' es i x
  | [], i, x, _, hz => hz x
  | q :: es, i, x, h, hz => by
    simp only [walk]
    rw [h i q x (List.mem_cons_self ..)]
    cases p' i q x with
    | inl y => exact walk_congr (fun i q x hq => h i q x (List.mem_cons_of_mem _ hq)) hz
    | inr r => rfl
/-- A round may look at its own row by its place. -/
theorem walk_at {p p' : Int → Row → X → X ⊕ R} {z : X → R} {es : Rows} {x : X} (h : ∀ i x, 0 ≤ i → i < rLen es → rAt es i ∈ es → p i (rAt es i) x = p' i (rAt es i) x) : walk p z es 0 x = walk p' z es 0 x := by
  suffices ∀ (l : Rows) (i : Int) (x : X), 0 ≤ i → es.drop i.toNat = l → walk p z l i x = walk p' z l i x by
    exact this es 0 x (Int.le_refl _) (by simp)
  intro l
  induction l with
  | nil => intro i x _ _; rfl
  | cons q l ih =>
    intro i x hi hl
    have hlen : i.toNat < es.length := by
      rcases Nat.lt_or_ge i.toNat es.length with h1 | h1
      · exact h1
      · rw [List.drop_of_length_le h1] at hl; cases hl
    rw [List.drop_eq_getElem_cons hlen] at hl
    injection hl with h1 h2
    have hq : rAt es i = q := by
      unfold rAt
      rw [List.getD_eq_getElem?_getD, List.getElem?_eq_getElem hlen]
      exact h1
    have hm : q ∈ es := by rw [← h1]; exact List.getElem_mem _
    have e := h i x hi (by unfold rLen; omega) (hq ▸ hm)
    rw [hq] at e
    simp only [walk]
    rw [e]
    cases p' i q x with
    | inr r => rfl
    | inl y =>
      refine ih (i + 1) y (by omega) ?_
      have e : (i + 1).toNat = i.toNat + 1 := by omega
      rw [e, h2]
/-- Two walks over the same rows that stay in a relation. -/
theorem walk_rel {p : Int → Row → X → X ⊕ R} {p' : Int → Row → Y → Y ⊕ S} {z : X → R} {z' : Y → S} (Rel : X → Y → Prop) (Q : R → S → Prop) : ∀ {es : Rows} {i j : Int} {x : X} {y : Y},
    (∀ i j q x y, q ∈ es → Rel x y → (∃ x' y', p i q x = .inl x' ∧ p' j q y = .inl y' ∧ Rel x' y') ∨ (∃ r s, p i q x = .inr r ∧ p' j q y = .inr s ∧ Q r s)) → (∀ x y, Rel x y → Q (z x) (z' y)) → Rel x y → Q (walk p z es i x) (walk p' z' es j y)
  | [], i, j, x, y, _, hz, h0 => hz x y h0
  | q :: es, i, j, x, y, h, hz, h0 => by
    simp only [walk]
    rcases h i j q x y (List.mem_cons_self ..) h0 with ⟨x', y', e1, e2, e3⟩ | ⟨r, s, e1, e2, e3⟩
    · rw [e1, e2]
      exact walk_rel Rel Q (fun i j q x y hq => h i j q x y (List.mem_cons_of_mem _ hq)) hz e3
    · rw [e1, e2]; exact e3
/-- What a walk keeps. -/
theorem walk_inv {p : Int → Row → X → X ⊕ R} {z : X → R} (I : X → Prop) (Q : R → Prop) : ∀ {es : Rows} {i : Int} {x : X},
    (∀ i q x, q ∈ es → I x → (∃ y, p i q x = .inl y ∧ I y) ∨ (∃ r, p i q x = .inr r ∧ Q r)) → (∀ x, I x → Q (z x)) → I x → Q (walk p z es i x)
  | [], i, x, _, hz, h0 => hz x h0
  | q :: es, i, x, h, hz, h0 => by
    simp only [walk]
    rcases h i q x (List.mem_cons_self ..) h0 with ⟨y, e1, e2⟩ | ⟨r, e1, e2⟩
    · rw [e1]; exact walk_inv I Q (fun i q x hq => h i q x (List.mem_cons_of_mem _ hq)) hz e2
    · rw [e1]; exact e2
theorem walk_find {p : Int → Row → Unit → Unit ⊕ R} {z : Unit → R} (c : Row → Bool) (g : Row → R) : ∀ {es : Rows} {i : Int}, (∀ i q, q ∈ es → p i q () = bif c q then .inr (g q) else .inl ()) → walk p z es i () = match es.find? c with | some q => g q | none => z ()
  | [], i, _ => rfl
  | q :: es, i, h => by
    simp only [walk]
    rw [h i q (List.mem_cons_self ..), List.find?_cons]
    cases c q with
    | true => rfl
    | false => exact walk_find c g (fun i q hq => h i q (List.mem_cons_of_mem _ hq))
/-- A search for one that c says. -/
theorem walk_any {p : Int → Row → Unit → Unit ⊕ R} {z : Unit → R} (c : Row → Bool) (r : R) {es : Rows} {i : Int} (h : ∀ i q, q ∈ es → p i q () = bif c q then .inr r else .inl ()) : walk p z es i () = bif es.any c then r else z () := by
  rw [walk_find c (fun _ => r) h]
  induction es with
  | nil => rfl
  | cons q es ih =>
    rw [List.find?_cons, List.any_cons]
    cases c q with
    | true => rfl
    | false => exact ih (fun i q hq => h i q (List.mem_cons_of_mem _ hq))
theorem walk_fold {p : Int → Row → X → X ⊕ R} {z : X → R} (f : X → Row → X) : ∀ {es : Rows} {i : Int} {x : X}, (∀ i q x, q ∈ es → p i q x = .inl (f x q)) → walk p z es i x = z (es.foldl f x)
  | [], i, x, _ => rfl
  | q :: es, i, x, h => by
    simp only [walk]
    rw [h i q x (List.mem_cons_self ..)]
    exact walk_fold f (fun i q x hq => h i q x (List.mem_cons_of_mem _ hq))
/-- Rows gathered. -/
theorem walk_gather {p : Int → Row → Rows → Rows ⊕ R} {z : Rows → R} (f : Row → Option Row) : ∀ {es : Rows} {i : Int} {x : Rows}, (∀ i q x, q ∈ es → p i q x = .inl (match f q with | some r => x ++ [r] | none => x)) → walk p z es i x = z (x ++ es.filterMap f)
  | [], i, x, _ => by simp [walk]
  | q :: es, i, x, h => by
    simp only [walk]
    rw [h i q x (List.mem_cons_self ..)]
    show walk p z es (i + 1) _ = _
    rw [walk_gather f (fun i q x hq => h i q x (List.mem_cons_of_mem _ hq)), List.filterMap_cons]
    cases f q with
    | none => rfl
    | some r => simp
end
/-- What a walk keeps, with its place. -/
theorem walk_ind {X R : Type} (N : Int) {p : Int → Row → X → X ⊕ R} {z : X → R} (I : Int → X → Prop) (Q : R → Prop) (hs : ∀ i q x, i < N → I i x → (∃ y, p i q x = .inl y ∧ I (i + 1) y) ∨ (∃ r, p i q x = .inr r ∧ Q r)) (hz : ∀ x, I N x → Q (z x)) : ∀ {es : Rows} {i : Int} {x : X}, i + rLen es = N → I i x → Q (walk p z es i x)
  | [], i, x, hN, h => by
    have : i = N := by unfold rLen at hN; simp at hN; exact hN
    subst this; exact hz x h
  | q :: es, i, x, hN, h => by
    have hl : rLen (q :: es) = rLen es + 1 := by unfold rLen; simp
    have h0 : 0 ≤ rLen es := by unfold rLen; omega
    simp only [walk]
    rcases hs i q x (by omega) h with ⟨y, e, hy⟩ | ⟨r, e, hr⟩
    · rw [e]; exact walk_ind N I Q hs hz (by omega) hy
    · rw [e]; exact hr
/-- A search that tells the place. -/
theorem walk_index {X R : Type} {p : Int → Row → X → X ⊕ (Int ⊕ R)} {z : X → Int ⊕ R} (h : ∀ i q x, (∃ y, p i q x = .inl y) ∨ p i q x = .inr (.inl i)) (hz : ∀ x, ∃ u, z x = .inr u) : ∀ {es : Rows} {i : Int} {x : X}, (∃ u, walk p z es i x = .inr u) ∨ ∃ j, walk p z es i x = .inl j ∧ i ≤ j ∧ j < i + rLen es
  | [], i, x => Or.inl (hz x)
  | q :: es, i, x => by
    have hl : rLen (q :: es) = rLen es + 1 := by unfold rLen; simp
    have h0 : 0 ≤ rLen es := by unfold rLen; omega
    simp only [walk]
    rcases h i q x with ⟨y, e⟩ | e
    · rw [e]
      rcases walk_index h hz (es := es) (i := i + 1) (x := y) with hu | ⟨j, h1, h2, h3⟩
      · exact Or.inl hu
      · exact Or.inr ⟨j, h1, by omega, by omega⟩
    · rw [e]; exact Or.inr ⟨i, rfl, Int.le_refl _, by omega⟩
/-- Each row replaced in its place. -/
theorem walk_map {R : Type} {p : Int → Row → Rows → Rows ⊕ R} {z : Rows → R} (f : Row → Row) (h : ∀ i x, 0 ≤ i → i < rLen x → p i [] x = .inl (rSet x i (f (rAt x i)))) (es : Rows) : walk p z (nRows (rLen es)) 0 es = z (es.map f) := by
  suffices ∀ (l pre : Rows), walk p z (List.replicate l.length []) (pre.length : Int) (pre ++ l) = z (pre ++ l.map f) by
    have h0 := this es []
    simp only [List.nil_append, List.length_nil] at h0
    have e : nRows (rLen es) = List.replicate es.length [] := by unfold nRows rLen; simp
    rw [e]; exact h0
  intro l
  induction l with
  | nil => intro pre; simp [walk]
  | cons q l ih =>
    intro pre
    rw [List.length_cons, List.replicate_succ]
    simp only [walk]
    rw [h (pre.length : Int) (pre ++ q :: l) (by omega) (by unfold rLen; simp; omega)]
    have e1 : rAt (pre ++ q :: l) (pre.length : Int) = q := by
      unfold rAt
      rw [List.getD_eq_getElem?_getD]; simp
    have e2 : rSet (pre ++ q :: l) (pre.length : Int) (f q) = (pre ++ [f q]) ++ l := by
      unfold rSet; simp
    rw [e1, e2]
    show walk p z _ _ _ = _
    have h2 := ih (pre ++ [f q])
    rw [List.length_append, List.length_singleton] at h2
    rw [show ((pre.length : Int) + 1) = ((pre.length + 1 : Nat) : Int) by omega, h2]
    simp
theorem DV.true_ {F : Nat → Option Bool} {w : Bool} {P : Bool → Prop} (h : DV F w P) (e : w = true) : D F (fun u => u = true) := D.mono h (fun v hv => hv.1.trans e)
theorem sEq_iff {s t : ByteArray} : sEq s t = true ↔ s = t := by
  unfold sEq
  rw [beq_iff_eq]
  constructor
  · intro h
    have : s.data = t.data := Array.toList_inj.1 (by simpa [ByteArray.toList_eq] using h)
    exact ByteArray.ext this
  · intro h; rw [h]
theorem sEq_refl (s : ByteArray) : sEq s s = true := sEq_iff.2 rfl
theorem sEq_symm (s t : ByteArray) : sEq s t = sEq t s := Bool.eq_iff_iff.2 ⟨fun h => sEq_iff.2 (sEq_iff.1 h).symm, fun h => sEq_iff.2 (sEq_iff.1 h).symm⟩
theorem iEq_iff {a b : Int} : iEq a b = true ↔ a = b := beq_iff_eq
theorem iEq_refl (a : Int) : iEq a a = true := iEq_iff.2 rfl
theorem iLt_iff {a b : Int} : iLt a b = true ↔ a < b := decide_eq_true_iff
theorem iLe_iff {a b : Int} : iLe a b = true ↔ a ≤ b := decide_eq_true_iff
end Go.Proofs.YtolackmpfnndhaaGreatDoor.Ev
