/- Part of a claim: see its row. Conditions: stated at each. -/
import Derived.Test.YthkdpkgkejdcgaaZEQ5
import Derived.Test.YthkdpkgkejdcgaaZEQX
import Derived.Test.YthkdpkgkejdcgaaZEPur
namespace Go.Proofs.Ythkdpkgkejdcgaa.Pure
open Go.RowKit Go.Proofs.Ythkdpkgkejdcgaa.Q Go.Proofs.Ythkdpkgkejdcgaa.Opn Go.Proofs.YthkdpkgkejdcgaaW.PrintWords Go.Proofs.YthkdpkgkejdcgaaW.PrintLast Go.Proofs.YthkdpkgkejdcgaaW.PrintMore Go.Proofs.Ythkdpkgkejdcgaa.Pur
set_option linter.unusedVariables false
set_option linter.unusedSimpArgs false
def firstOf {α β : Type} (p : α → Bool) (F : Int → α → β) (d : β) : List α → Int → β
  | [], _ => d
  | x :: r, i => if p x = true then F i x else firstOf p F d r (i + 1)
theorem firstOf_ev {α β : Type} (z : α) (l : List α) (p : α → Bool) (F : Int → α → β) (d : β) (L : Nat → Int → Option β) (C : Nat → α → Option Bool) (hl : l.length ≤ 4611686018427387904)
    (hL : ∀ k (j : Nat) (hj : j < l.length), L (k + 1) (j : Int) = ((C k (l[j])).bind fun t => (if t = true then (some (F (j : Int) l[j])) else (L k (wrap64 ((j : Int) + 1))))))
    (hE : ∀ k, L (k + 1) (l.length : Int) = some d)
    (hp : ∀ y ∈ l, Ev (fun k => C k y) (p y)) : Ev (fun k => L k 0) (firstOf p F d l 0) := by
  have key : ∀ (e j : Nat), j + e = l.length → Ev (fun k => L k (j : Int)) (firstOf p F d (l.drop j) j) := by
    intro e
    induction e with
    | zero =>
      intro j hj
      have : j = l.length := by omega
      subst this
      refine Ev.step (fun k => hE k) ?_
      simp only [List.drop_length]
      exact Ev.now _
    | succ e ih =>
      intro j hj
      have hlt : j < l.length := by omega
      refine Ev.step (fun k => hL k j hlt) ?_
      simp only [wrap_succ hlt hl]
      rw [List.drop_eq_getElem_cons hlt]
      refine Ev.bind (hp _ (List.getElem_mem hlt)) ?_
      simp only [firstOf]
      cases p l[j] with
      | true => simpa using Ev.now _
      | false => simpa using ih (j + 1) (by omega)
  have h := key l.length 0 (by omega)
  simpa using h
theorem firstOf_idx {α : Type} (p : α → Bool) (l : List α) (i : Int) : firstOf p (fun i _ => i) (-1) l i = idx p l i := by
  induction l generalizing i with
  | nil => rfl
  | cons x r ih => cases hx : p x <;> simp [firstOf, idx, hx, ih]
theorem len_of {α : Type} {B : Nat} {X : α → Prop} {l : List α} (h : XL B X l) (hB : 1 ≤ B) : l.length ≤ 140737488351232 := Nat.le_trans (Nat.le_mul_of_pos_right _ hB) h.1
theorem rd31 {l : List S31} {j : Nat} (h : j < l.length) : rd_T31 l (j : Int) = l[j] := getD_nat h
theorem rd70 {l : List S70} {j : Nat} (h : j < l.length) : rd_T70 l (j : Int) = l[j] := getD_nat h
theorem rd66 {l : List S66} {j : Nat} (h : j < l.length) : rd_T66 l (j : Int) = l[j] := getD_nat h
theorem rdS {l : List ByteArray} {j : Nat} (h : j < l.length) : rdOf ByteArray.empty l (j : Int) = l[j] := getD_nat h
theorem set_same {α : Type} {l : List α} {j : Nat} (h : j < l.length) {z : α} (e : z = l[j]) : l.set j z = l := by
  subst e
  exact List.set_getElem_self h
theorem eta31 (x : S31) : (⟨x.f0, x.f1, x.f2, x.f3, x.f4⟩ : S31) = x := by
  cases x
  rfl
theorem eta70 (y : S70) : (⟨y.f0, (⟨y.f1.f0, y.f1.f1, y.f1.f2, y.f1.f3, y.f1.f4⟩ : S31)⟩ : S70) = y := by
  rw [eta31]
def CloneOk (x : S31) : Prop := Ev (fun k => value_clone.f k x.f0 x.f1 x.f2 x.f3 x.f4) (x.f0, x.f1, x.f2, x.f3, x.f4)
theorem clone_fields (l : List S70) (n m : Int) (s : ByteArray) (ls : List S31) (hn : l.length ≤ 140737488351232) (hl : ∀ y ∈ l, CloneOk y.f1) : ∀ (d j : Nat), j + d = l.length → Ev (fun k => value_clone.l1 k (l.length : Int) (j : Int) n m s ls l) (n, m, s, ls, l) := by
  intro d
  induction d with
  | zero =>
    intro j hj
    have : j = l.length := by omega
    subst this
    refine Ev.step (fun k => rfl) ?_
    simp only [value_clone.l1, Int.lt_irrefl, if_false]
    exact Ev.now _
  | succ d ih =>
    intro j hj
    have hlt : j < l.length := by omega
    have h1 : (j : Int) < (l.length : Int) := by omega
    have hc := hl _ (List.getElem_mem hlt)
    refine Ev.step (fun k => rfl) ?_
    simp only [value_clone.l1, if_pos h1, if_pos (show (0 : Int) ≤ (j : Int) by omega), rd70 hlt]
    refine Ev.bind hc ?_
    simp only [Int.toNat_natCast, wrap_succ hlt (show l.length ≤ 4611686018427387904 by omega)]
    have e : l.set j ⟨l[j].f0, ⟨l[j].f1.f0, l[j].f1.f1, l[j].f1.f2, l[j].f1.f3, l[j].f1.f4⟩⟩ = l := set_same hlt (eta70 _)
    rw [e]
    exact ih (j + 1) (by omega)
theorem clone_list (l : List S31) (fs : List S70) (n m : Int) (s : ByteArray) (hn : l.length ≤ 140737488351232) (hf : fs.length < 1466015503701) (hl : ∀ y ∈ l, CloneOk y) (hfl : ∀ y ∈ fs, CloneOk y.f1) : ∀ (d j : Nat), j + d = l.length → Ev (fun k => value_clone.l0 k (l.length : Int) (j : Int) n m s l fs) (n, m, s, l, fs) := by
  intro d
  induction d with
  | zero =>
    intro j hj
    have : j = l.length := by omega
    subst this
    refine Ev.step (fun k => rfl) ?_
    simp only [value_clone.l0, Int.lt_irrefl, if_false, api_Field.f, Option.bind_some, List.nil_append, List.length_nil, Nat.zero_add, if_pos hf]
    have h := clone_fields fs n m s l (by omega) hfl fs.length 0 (by omega)
    exact h
  | succ d ih =>
    intro j hj
    have hlt : j < l.length := by omega
    have h1 : (j : Int) < (l.length : Int) := by omega
    have hc := hl _ (List.getElem_mem hlt)
    refine Ev.step (fun k => rfl) ?_
    simp only [value_clone.l0, if_pos h1, if_pos (show (0 : Int) ≤ (j : Int) by omega), rd31 hlt]
    refine Ev.bind hc ?_
    simp only [Int.toNat_natCast, wrap_succ hlt (show l.length ≤ 4611686018427387904 by omega)]
    have e : l.set j ⟨l[j].f0, l[j].f1, l[j].f2, l[j].f3, l[j].f4⟩ = l := set_same hlt (eta31 _)
    rw [e]
    exact ih (j + 1) (by omega)
theorem clone_of (n m : Int) (s : ByteArray) (l : List S31) (fs : List S70) (h3 : XL 80 X31 l) (h4 : XL 96 X70 fs) (hl : ∀ y ∈ l, CloneOk y) (hfl : ∀ y ∈ fs, CloneOk y.f1) : Ev (fun k => value_clone.f k n m s l fs) (n, m, s, l, fs) := by
  have b3 := h3.1
  have b4 := h4.1
  refine Ev.step (fun k => rfl) ?_
  simp only [value_clone.f, api_Value.f, Option.bind_some, List.nil_append, List.length_nil, Nat.zero_add, if_pos (show l.length < 1759218604441 by omega)]
  exact clone_list l fs n m s (by omega) (by omega) hl hfl l.length 0 (by omega)
theorem clone_ok : ∀ (x : S31), X31 x → CloneOk x
  | ⟨n, m, s, l, fs⟩, hx => by
    have h := X31_iff.1 hx
    exact clone_of n m s l fs h.2.2.2.1 h.2.2.2.2 (fun y hy => clone_ok y (h.2.2.2.1.2 y hy)) (fun y hy => clone_ok y.f1 (h.2.2.2.2.2 y hy).2)
termination_by x => SizeOf.sizeOf x
decreasing_by
  · have := List.sizeOf_lt_of_mem hy
    simp only [S31.mk.sizeOf_spec]
    omega
  · have := List.sizeOf_lt_of_mem hy
    obtain ⟨a, b⟩ := y
    simp only [S31.mk.sizeOf_spec, G70.mk.sizeOf_spec] at this ⊢
    omega
theorem two_fit {a b : S31} (ha : X31 a) (hb : X31 b) : XL 80 X31 [a, b] := ⟨by simp, fun x hx => by
  rcases List.mem_cons.1 hx with rfl | hx
  · exact ha
  · rw [List.mem_singleton.1 hx]; exact hb⟩
theorem managers (o : S33) (hv1 : X31 o.f1) (hv2 : X31 o.f2) (hm : XL 40 X66 o.f0.f12) : ∀ (d j : Nat), j + d = o.f0.f12.length → Ev (fun k => deletion_clone.l0 k (o.f0.f12.length : Int) (j : Int) o.f0.f0 o.f0.f1 o.f0.f2 o.f0.f3 o.f0.f4 o.f0.f5 o.f0.f6 o.f0.f7 o.f0.f8 o.f0.f9 o.f0.f10 o.f0.f11 o.f0.f12 o.f1.f0 o.f1.f1 o.f1.f2 o.f1.f3 o.f1.f4 o.f2.f0 o.f2.f1 o.f2.f2 o.f2.f3 o.f2.f4) (o.f0.f0, o.f0.f1, o.f0.f2, o.f0.f3, o.f0.f4, o.f0.f5, o.f0.f6, o.f0.f7, o.f0.f8, o.f0.f9, o.f0.f10, o.f0.f11, o.f0.f12, o.f1.f0, o.f1.f1, o.f1.f2, o.f1.f3, o.f1.f4, o.f2.f0, o.f2.f1, o.f2.f2, o.f2.f3, o.f2.f4) := by
  have hn := len_of hm (by decide)
  intro d
  induction d with
  | zero =>
    intro j hj
    have : j = o.f0.f12.length := by omega
    subst this
    refine Ev.step (fun k => rfl) ?_
    simp only [deletion_clone.l0, Int.lt_irrefl, if_false, value_List.f, eta31]
    have hc := clone_of 4 0 (⟨#[]⟩ : ByteArray) [o.f1, o.f2] [] (two_fit hv1 hv2) ⟨by simp, by simp⟩ (fun y hy => clone_ok y ((two_fit hv1 hv2).2 y hy)) (by simp)
    refine Ev.bind (Ev.bind hc (Ev.now _)) ?_
    exact Ev.now _
  | succ d ih =>
    intro j hj
    have hlt : j < o.f0.f12.length := by omega
    have h1 : (j : Int) < (o.f0.f12.length : Int) := by omega
    have hc := (hm.2 _ (List.getElem_mem hlt)).2.1
    refine Ev.step (fun k => rfl) ?_
    simp only [deletion_clone.l0, if_pos h1, if_pos (show (0 : Int) ≤ (j : Int) by omega), rd66 hlt, slices_Clone_string_string.f, Option.bind_some, List.nil_append, List.length_nil, Nat.zero_add, if_pos (show o.f0.f12[j].f1.length < 8796093022208 by omega), Int.toNat_natCast, wrap_succ hlt (show o.f0.f12.length ≤ 4611686018427387904 by omega)]
    have e : o.f0.f12.set j ⟨o.f0.f12[j].f0, o.f0.f12[j].f1⟩ = o.f0.f12 := set_same hlt rfl
    rw [e]
    exact ih (j + 1) (by omega)
theorem dclone_ev (o : S33) (ho : X33 o) : Ev (fun k => deletion_clone.f k o.f0.f0 o.f0.f1 o.f0.f2 o.f0.f3 o.f0.f4 o.f0.f5 o.f0.f6 o.f0.f7 o.f0.f8 o.f0.f9 o.f0.f10 o.f0.f11 o.f0.f12 o.f1.f0 o.f1.f1 o.f1.f2 o.f1.f3 o.f1.f4 o.f2.f0 o.f2.f1 o.f2.f2 o.f2.f3 o.f2.f4) (o.f0.f0, o.f0.f1, o.f0.f2, o.f0.f3, o.f0.f4, o.f0.f5, o.f0.f6, o.f0.f7, o.f0.f8, o.f0.f9, o.f0.f10, o.f0.f11, o.f0.f12, o.f1.f0, o.f1.f1, o.f1.f2, o.f1.f3, o.f1.f4, o.f2.f0, o.f2.f1, o.f2.f2, o.f2.f3, o.f2.f4) := by
  have h := ho.1.2.2.2.2.2.2.2.2.2
  have b1 := h.1.1
  have b2 := h.2.1.1
  have b3 := h.2.2.1.1
  have b4 := h.2.2.2.1
  unfold deletion_clone.f
  simp only [api_Label.f, api_Owner.f, slices_Clone_string_string.f, api_Manager.f, Option.bind_some, List.nil_append, List.length_nil, Nat.zero_add, if_pos (show o.f0.f9.length < 4398046511104 by omega), if_pos (show o.f0.f10.length < 2932031007402 by omega), if_pos (show o.f0.f11.length < 8796093022208 by omega), if_pos (show o.f0.f12.length < 3518437208883 by omega)]
  exact managers o ho.2.1 ho.2.2 h.2.2.2 o.f0.f12.length 0 (by omega)
end Go.Proofs.Ythkdpkgkejdcgaa.Pure
