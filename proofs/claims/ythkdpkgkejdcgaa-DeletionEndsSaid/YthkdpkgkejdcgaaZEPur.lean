/- Part of a claim: see its row. Conditions: stated at each. -/
import Derived.Test.YthkdpkgkejdcgaaZEW0
import Derived.Test.YthkdpkgkejdcgaaZEOpn
namespace Go.Proofs.Ythkdpkgkejdcgaa.Pur
open Go.RowKit Go.Proofs.YthkdpkgkejdcgaaW.PrintWords Go.Proofs.YthkdpkgkejdcgaaW.PrintMore
set_option linter.unusedVariables false
theorem Ev.some {α : Type} {x : Option α} {r : α} (h : x = Option.some r) : Ev (fun _ => x) r := ⟨0, fun _ _ => h⟩
theorem Ev.eq {α : Type} {g : Nat → Option α} {a b : α} (h : Ev g a) (e : a = b) : Ev g b := e ▸ h
theorem Ev.pos {α : Type} {c : Prop} [Decidable c] {g f : Nat → Option α} {r : α} (hc : c) (h : Ev g r) : Ev (fun k => if c then g k else f k) r := by
  simp only [if_pos hc]; exact h
theorem Ev.neg {α : Type} {c : Prop} [Decidable c] {g f : Nat → Option α} {r : α} (hc : ¬ c) (h : Ev f r) : Ev (fun k => if c then g k else f k) r := by
  simp only [if_neg hc]; exact h
theorem Ev.ite {α : Type} {c : Prop} [Decidable c] {g f : Nat → Option α} {r : α} (h1 : c → Ev g r) (h2 : ¬ c → Ev f r) : Ev (fun k => if c then g k else f k) r := by
  by_cases hc : c
  · exact Ev.pos hc (h1 hc)
  · exact Ev.neg hc (h2 hc)
theorem Ev.bind_some {α β : Type} {a : α} {f : Nat → α → Option β} {r : β} (k : Ev (fun n => f n a) r) : Ev (fun n => (Option.some a).bind (f n)) r := k
theorem wrap_succ {j n : Nat} (h : j < n) (hn : n ≤ 4611686018427387904) : wrap64 ((j : Int) + 1) = ((j + 1 : Nat) : Int) := by
  unfold wrap64
  omega
theorem wrap_id {i : Int} (h1 : -9223372036854775808 ≤ i) (h2 : i ≤ 9223372036854775807) : wrap64 i = i := by
  unfold wrap64
  omega
theorem getD_nat {α : Type} {l : List α} {z : α} {j : Nat} (h : j < l.length) : l.getD (j : Int).toNat z = l[j] := by
  simp [List.getD_eq_getElem?_getD, List.getElem?_eq_getElem h]
theorem mx_eq (a b : Int) : mx a b = max a b := by unfold mx; omega
theorem mn_eq (a b : Int) : mn a b = min a b := by unfold mn; omega
def idx {α : Type} (p : α → Bool) : List α → Int → Int
  | [], _ => -1
  | x :: r, i => if p x = true then i else idx p r (i + 1)
theorem idx_ge {α : Type} (p : α → Bool) (l : List α) (i : Int) (h : 0 ≤ i) : decide (idx p l i ≥ 0) = l.any p := by
  induction l generalizing i with
  | nil => rfl
  | cons x r ih =>
    by_cases hx : p x = true
    · simp [idx, hx, h]
    · have := ih (i + 1) (by omega)
      simp [idx, hx] at this ⊢
      exact this
theorem idx_some {α : Type} (p : α → Bool) (l : List α) : ∀ (i : Int), 0 ≤ i → idx p l i = -1 ∧ (∀ x ∈ l, p x = false) ∨ ∃ (j : Nat) (hj : j < l.length), idx p l i = i + j ∧ p l[j] = true ∧ ∀ (q : Nat) (hq : q < l.length), q < j → p l[q] = false := by
  induction l with
  | nil => intro i _; exact Or.inl ⟨rfl, by simp⟩
  | cons x r ih =>
    intro i hi
    cases hx : p x with
    | true => exact Or.inr ⟨0, by simp, by simp [idx, hx], by simpa using hx, fun q _ hq => absurd hq (Nat.not_lt_zero _)⟩
    | false =>
      rcases ih (i + 1) (by omega) with ⟨h1, h2⟩ | ⟨j, hj, h1, h2, h3⟩
      · exact Or.inl ⟨by simp [idx, hx, h1], fun y hy => by rcases List.mem_cons.1 hy with rfl | hy; exact hx; exact h2 y hy⟩
      · refine Or.inr ⟨j + 1, by simpa using hj, by simp [idx, hx, h1]; omega, by simpa using h2, fun q hq hlt => ?_⟩
        cases q with
        | zero => simpa using hx
        | succ q => simpa using h3 q (by simpa using hq) (by omega)
theorem indexFunc_ev {α : Type} (z : α) (l : List α) (p : α → Bool) (L : Nat → Int → Option Int) (C : Nat → α → Option Bool) (hl : l.length ≤ 4611686018427387904)
    (hL : ∀ k i, L (k + 1) i = if i < (l.length : Int) then (if 0 ≤ i then (if i < (l.length : Int) then ((C k (l.getD i.toNat z)).bind fun t => (if t = true then (some i) else (L k (wrap64 (i + 1))))) else (none)) else (none)) else (some (-1)))
    (hp : ∀ y ∈ l, Ev (fun k => C k y) (p y)) : Ev (fun k => L k 0) (idx p l 0) := by
  have key : ∀ (d j : Nat), j + d = l.length → Ev (fun k => L k (j : Int)) (idx p (l.drop j) j) := by
    intro d
    induction d with
    | zero =>
      intro j hj
      have : j = l.length := by omega
      subst this
      refine Ev.step (fun k => hL k _) ?_
      simp only [Int.lt_irrefl, if_false, List.drop_length]
      exact Ev.now _
    | succ d ih =>
      intro j hj
      have hlt : j < l.length := by omega
      have h1 : (j : Int) < (l.length : Int) := by omega
      refine Ev.step (fun k => hL k _) ?_
      simp only [if_pos h1, if_pos (show (0 : Int) ≤ (j : Int) by omega), getD_nat hlt, wrap_succ hlt hl]
      rw [List.drop_eq_getElem_cons hlt]
      refine Ev.bind (hp _ (List.getElem_mem hlt)) ?_
      simp only [idx]
      cases p l[j] with
      | true => simpa using Ev.now _
      | false => simpa using ih (j + 1) (by omega)
  have h := key l.length 0 (by omega)
  simpa using h
end Go.Proofs.Ythkdpkgkejdcgaa.Pur
