/- Part of a claim: see its row. Conditions: stated at each. -/
import Derived.Test.YtkdikhonafbgdaaZMQ2
import Derived.Test.YtkdikhonafbgdaaZMPur
namespace Go.Proofs.Ytkdikhonafbgdaa.Pure
open Go.RowKit Go.Proofs.Ytkdikhonafbgdaa.Q Go.Proofs.Ytkdikhonafbgdaa.Opn Go.Proofs.YtkdikhonafbgdaaW.PrintWords Go.Proofs.YtkdikhonafbgdaaW.PrintLast Go.Proofs.YtkdikhonafbgdaaW.PrintMore Go.Proofs.Ytkdikhonafbgdaa.Pur
set_option linter.unusedVariables false
set_option linter.unusedSimpArgs false
def firstOf {α β : Type} (p : α → Bool) (F : Int → α → β) (d : β) : List α → Int → β
  | [], _ => d
  | x :: r, i => if p x = true then F i x else firstOf p F d r (i + 1)
theorem firstOf_ev {α β : Type} (z : α) (l : List α) (p : α → Bool) (F : Int → α → β) (d : β) (L : Nat → Int → Option β) (C : Nat → α → Option Bool) (hl : l.length ≤ 4611686018427387904)
    (hL : ∀ k (j : Nat) (hj : j < l.length), L (k + 1) (j : Int) = ((C k (l[j])).bind fun t => (if t = true then (some (F (j : Int) l[j])) else (L k (wrap64 ((j : Int) + 1))))))
    (hE : ∀ k, L (k + 1) (l.length : Int) = some d)
    (hp : ∀ y ∈ l, Ev (fun k => C k y) (p y)) : Ev (fun k => L k 0) (firstOf p F d l 0) := by
  have key : ∀ (e j : Nat), j + e = l.length → Ev (fun k => L k (j : Int)) (firstOf p F d (l.drop j) j) := by
    intro e
    induction e with
    | zero =>
      intro j hj
      have : j = l.length := by omega
      subst this
      refine Ev.step (fun k => hE k) ?_
      simp only [List.drop_length]
      exact Ev.now _
    | succ e ih =>
      intro j hj
      have hlt : j < l.length := by omega
      refine Ev.step (fun k => hL k j hlt) ?_
      simp only [wrap_succ hlt hl]
      rw [List.drop_eq_getElem_cons hlt]
      refine Ev.bind (hp _ (List.getElem_mem hlt)) ?_
      simp only [firstOf]
      cases p l[j] with
      | true => simpa using Ev.now _
      | false => simpa using ih (j + 1) (by omega)
  have h := key l.length 0 (by omega)
  simpa using h
theorem firstOf_idx {α : Type} (p : α → Bool) (l : List α) (i : Int) : firstOf p (fun i _ => i) (-1) l i = idx p l i := by
  induction l generalizing i with
  | nil => rfl
  | cons x r ih => cases hx : p x <;> simp [firstOf, idx, hx, ih]
theorem firstOf_all {α : Type} (p : α → Bool) (l : List α) (i : Int) : firstOf (fun x => !p x) (fun _ _ => false) true l i = l.all p := by
  induction l generalizing i with
  | nil => rfl
  | cons x r ih => cases hx : p x <;> simp [firstOf, hx, ih]
theorem rd72 {l : List S72} {j : Nat} (h : j < l.length) : rd_T72 l (j : Int) = l[j] := getD_nat h
theorem rd74 {l : List S74} {j : Nat} (h : j < l.length) : rd_T74 l (j : Int) = l[j] := getD_nat h
theorem rdS {l : List ByteArray} {j : Nat} (h : j < l.length) : rdOf ByteArray.empty l (j : Int) = l[j] := getD_nat h
def getS (l : List S72) (a : ByteArray) : ByteArray × Bool := firstOf (fun x : S72 => decide (x.f0.toList = a.toList)) (fun _ x => (x.f1, true)) ((⟨#[]⟩ : ByteArray), false) l 0
theorem bite {β : Type} {c : Prop} [Decidable c] (x y : Option β) : (if c then x else y) = ((some (decide c)).bind fun t => if t = true then x else y) := by
  by_cases h : c <;> simp [h]
theorem get_ev (l : List S72) (a : ByteArray) (hl : l.length ≤ 4611686018427387904) : Ev (fun k => label_Get.f k l a) (getS l a) := by
  unfold label_Get.f getS
  refine firstOf_ev z72 l (fun x : S72 => decide (x.f0.toList = a.toList)) (fun _ x => (x.f1, true)) _ (fun k i => label_Get.l0 k a l (l.length : Int) i) (fun _ x => some (decide (x.f0.toList = a.toList))) hl (fun k j hj => ?_) (fun k => ?_) (fun y _ => Ev.now _)
  · have h1 : (j : Int) < (l.length : Int) := by omega
    simp only [label_Get.l0, if_pos h1, if_pos (show (0 : Int) ≤ (j : Int) by omega), rd72 hj]
    exact bite _ _
  · simp only [label_Get.l0, Int.lt_irrefl, if_false]
def hasS (l : List ByteArray) (a : ByteArray) : Bool := l.any (fun x => decide (a.toList = x.toList))
theorem contains_ev (l : List ByteArray) (a : ByteArray) (hl : l.length ≤ 4611686018427387904) : Ev (fun k => slices_Contains_string_string.f k l a) (hasS l a) := by
  unfold slices_Contains_string_string.f slices_Index_string_string.f hasS
  refine Ev.bind (firstOf_ev ByteArray.empty l (fun x => decide (a.toList = x.toList)) (fun i _ => i) (-1) (fun k i => slices_Index_string_string.l0 k l a (l.length : Int) i) (fun _ x => some (decide (a.toList = x.toList))) hl (fun k j hj => ?_) (fun k => ?_) (fun y _ => Ev.now _)) ?_
  · have h1 : (j : Int) < (l.length : Int) := by omega
    simp only [slices_Index_string_string.l0, if_pos h1, if_pos (show (0 : Int) ≤ (j : Int) by omega), rdS hj]
    exact bite _ _
  · simp only [slices_Index_string_string.l0, Int.lt_irrefl, if_false]
  · rw [firstOf_idx]
    exact Ev.eq (Ev.now _) (idx_ge _ _ _ (by omega))
def holdsS (x : S74) (l : List S72) : Bool :=
  if x.f1 = 1 then (getS l x.f0).2 && hasS x.f2 (getS l x.f0).1 else if x.f1 = 2 then !((getS l x.f0).2 && hasS x.f2 (getS l x.f0).1) else if x.f1 = 3 then (getS l x.f0).2 else if x.f1 = 4 then !(getS l x.f0).2 else false
theorem holds_ev (x : S74) (l : List S72) (hl : l.length ≤ 4611686018427387904) (hx : x.f2.length ≤ 4611686018427387904) : Ev (fun k => label_holds.f k x.f0 x.f1 x.f2 l) (holdsS x l) := by
  unfold label_holds.f holdsS
  refine Ev.bind (get_ev l x.f0 hl) ?_
  cases getS l x.f0 with
  | mk v b =>
  refine Ev.ite (fun h => ?_) (fun h => Ev.ite (fun h2 => ?_) (fun h2 => Ev.ite (fun h3 => ?_) (fun h3 => Ev.ite (fun h4 => ?_) (fun h4 => ?_))))
  · simp only [if_pos h]
    refine Ev.ite (fun hb => ?_) (fun hb => ?_)
    · exact Ev.bind (contains_ev x.f2 v hx) (Ev.eq (Ev.now _) (by have hb : b = true := hb; subst hb; rfl))
    · exact Ev.eq (Ev.now _) (by have hb : b = false := (by simpa using hb); subst hb; rfl)
  · simp only [if_neg h, if_pos h2]
    refine Ev.ite (fun hb => ?_) (fun hb => ?_)
    · exact Ev.bind (contains_ev x.f2 v hx) (Ev.eq (Ev.now _) (by have hb : b = true := hb; subst hb; rfl))
    · exact Ev.eq (Ev.now _) (by have hb : b = false := (by simpa using hb); subst hb; rfl)
  · simp only [if_neg h, if_neg h2, if_pos h3]
    exact Ev.now _
  · simp only [if_neg h, if_neg h2, if_neg h3, if_pos h4]
    exact Ev.now _
  · simp only [if_neg h, if_neg h2, if_neg h3, if_neg h4]
    exact Ev.now _
def matchesS (q : List S74) (l : List S72) : Bool := q.all (fun x => holdsS x l)
theorem matches_ev (q : List S74) (l : List S72) (hl : l.length ≤ 4611686018427387904) (hq : q.length ≤ 4611686018427387904) (hx : ∀ x ∈ q, x.f2.length ≤ 4611686018427387904) : Ev (fun k => label_Matches.f k q l) (matchesS q l) := by
  unfold label_Matches.f matchesS
  rw [← firstOf_all (fun x => holdsS x l) q 0]
  refine firstOf_ev z74 q _ (fun _ _ => false) true (fun k i => label_Matches.l0 k l q (q.length : Int) i) (fun k x => (label_holds.f k x.f0 x.f1 x.f2 l).bind fun t => some (!t)) hq (fun k j hj => ?_) (fun k => ?_) (fun y hy => Ev.bind (holds_ev y l hl (hx y hy)) (Ev.now _))
  · have h1 : (j : Int) < (q.length : Int) := by omega
    simp only [label_Matches.l0, if_pos h1, if_pos (show (0 : Int) ≤ (j : Int) by omega), rd74 hj]
    cases label_holds.f k q[j].f0 q[j].f1 q[j].f2 l with
    | none => rfl
    | some t => cases t <;> simp
  · simp only [label_Matches.l0, Int.lt_irrefl, if_false]
end Go.Proofs.Ytkdikhonafbgdaa.Pure
