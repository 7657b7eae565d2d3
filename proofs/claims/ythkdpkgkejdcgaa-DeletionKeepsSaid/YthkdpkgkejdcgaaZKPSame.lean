/- Part of a claim: see its row. Conditions: stated at each. -/
import Derived.Test.YthkdpkgkejdcgaaZKQ13
import Derived.Test.YthkdpkgkejdcgaaZKPClo
namespace Go.Proofs.Ythkdpkgkejdcgaa.Pure
open Go.RowKit Go.Proofs.Ythkdpkgkejdcgaa.Q Go.Proofs.Ythkdpkgkejdcgaa.Opn Go.Proofs.YthkdpkgkejdcgaaW.PrintWords Go.Proofs.YthkdpkgkejdcgaaW.PrintLast Go.Proofs.YthkdpkgkejdcgaaW.PrintMore Go.Proofs.Ythkdpkgkejdcgaa.Pur
set_option linter.unusedVariables false
set_option linter.unusedSimpArgs false
theorem rd59 {l : List S59} {j : Nat} (h : j < l.length) : rd_T59 l (j : Int) = l[j] := getD_nat h
theorem rd62 {l : List S62} {j : Nat} (h : j < l.length) : rd_T62 l (j : Int) = l[j] := getD_nat h
theorem strings_ev (l : List ByteArray) (hn : l.length ≤ 4611686018427387904) : Ev (fun k => orchestratorref21_Strings.f k l l) true := by
  have go : ∀ (d j : Nat), j + d = l.length → Ev (fun k => orchestratorref21_Strings.l0 k l l (j : Int)) true := by
    intro d
    induction d with
    | zero =>
      intro j hj
      have : j = l.length := by omega
      subst this
      refine Ev.step (fun k => rfl) ?_
      simp only [orchestratorref21_Strings.l0, Int.lt_irrefl, if_false]
      exact Ev.now _
    | succ d ih =>
      intro j hj
      have hlt : j < l.length := by omega
      have h1 : (j : Int) < (l.length : Int) := by omega
      refine Ev.step (fun k => rfl) ?_
      simp only [orchestratorref21_Strings.l0, if_pos h1, if_pos (show (0 : Int) ≤ (j : Int) by omega), if_true, wrap_succ hlt hn]
      exact ih (j + 1) (by omega)
  unfold orchestratorref21_Strings.f
  simp only [if_true]
  exact go l.length 0 (by omega)
def SameOk (x : S31) : Prop := Ev (fun k => orchestratorref21_SameValue.f k x.f0 x.f1 x.f2 x.f3 x.f4 x.f0 x.f1 x.f2 x.f3 x.f4) true
theorem same_fields (l : List S70) (n m : Int) (s : ByteArray) (ls : List S31) (hn : l.length ≤ 140737488351232) (hl : ∀ y ∈ l, SameOk y.f1) : ∀ (d j : Nat), j + d = l.length → Ev (fun k => orchestratorref21_SameValue.l1 k (j : Int) n m s ls l n m s ls l) true := by
  intro d
  induction d with
  | zero =>
    intro j hj
    have : j = l.length := by omega
    subst this
    refine Ev.step (fun k => rfl) ?_
    simp only [orchestratorref21_SameValue.l1, Int.lt_irrefl, if_false]
    exact Ev.now _
  | succ d ih =>
    intro j hj
    have hlt : j < l.length := by omega
    have h1 : (j : Int) < (l.length : Int) := by omega
    have hc := hl _ (List.getElem_mem hlt)
    refine Ev.step (fun k => rfl) ?_
    simp only [orchestratorref21_SameValue.l1, if_pos h1, if_pos (show (0 : Int) ≤ (j : Int) by omega), rd70 hlt, if_true]
    refine Ev.bind hc ?_
    simp only [if_true, wrap_succ hlt (show l.length ≤ 4611686018427387904 by omega)]
    exact ih (j + 1) (by omega)
theorem same_list (l : List S31) (fs : List S70) (n m : Int) (s : ByteArray) (hn : l.length ≤ 140737488351232) (hf : fs.length ≤ 140737488351232) (hl : ∀ y ∈ l, SameOk y) (hfl : ∀ y ∈ fs, SameOk y.f1) : ∀ (d j : Nat), j + d = l.length → Ev (fun k => orchestratorref21_SameValue.l0 k (j : Int) n m s l fs n m s l fs) true := by
  intro d
  induction d with
  | zero =>
    intro j hj
    have : j = l.length := by omega
    subst this
    refine Ev.step (fun k => rfl) ?_
    simp only [orchestratorref21_SameValue.l0, Int.lt_irrefl, if_false]
    exact same_fields fs n m s l hf hfl fs.length 0 (by omega)
  | succ d ih =>
    intro j hj
    have hlt : j < l.length := by omega
    have h1 : (j : Int) < (l.length : Int) := by omega
    have hc := hl _ (List.getElem_mem hlt)
    refine Ev.step (fun k => rfl) ?_
    simp only [orchestratorref21_SameValue.l0, if_pos h1, if_pos (show (0 : Int) ≤ (j : Int) by omega), rd31 hlt]
    refine Ev.bind hc ?_
    simp only [if_true, wrap_succ hlt (show l.length ≤ 4611686018427387904 by omega)]
    exact ih (j + 1) (by omega)
theorem same_of (n m : Int) (s : ByteArray) (l : List S31) (fs : List S70) (h3 : XL 80 X31 l) (h4 : XL 96 X70 fs) (hl : ∀ y ∈ l, SameOk y) (hfl : ∀ y ∈ fs, SameOk y.f1) : Ev (fun k => orchestratorref21_SameValue.f k n m s l fs n m s l fs) true := by
  have b3 := h3.1
  have b4 := h4.1
  refine Ev.step (fun k => rfl) ?_
  simp only [orchestratorref21_SameValue.f, if_true, bne_self_eq_false]
  refine Ev.step (fun k => rfl) ?_
  simp only [orchestratorref21_SameValue.j0, Bool.false_eq_true, if_false]
  exact same_list l fs n m s (by omega) (by omega) hl hfl l.length 0 (by omega)
theorem same_ok : ∀ (x : S31), X31 x → SameOk x
  | ⟨n, m, s, l, fs⟩, hx => by
    have h := X31_iff.1 hx
    exact same_of n m s l fs h.2.2.2.1 h.2.2.2.2 (fun y hy => same_ok y (h.2.2.2.1.2 y hy)) (fun y hy => same_ok y.f1 (h.2.2.2.2.2 y hy).2)
termination_by x => SizeOf.sizeOf x
decreasing_by
  · have := List.sizeOf_lt_of_mem hy
    simp only [S31.mk.sizeOf_spec]
    omega
  · have := List.sizeOf_lt_of_mem hy
    obtain ⟨a, b⟩ := y
    simp only [S31.mk.sizeOf_spec, G70.mk.sizeOf_spec] at this ⊢
    omega
theorem meta2 (o : S33) (hn : o.f0.f12.length ≤ 140737488351232) (hs : ∀ y ∈ o.f0.f12, y.f1.length ≤ 4611686018427387904) : ∀ (d j : Nat), j + d = o.f0.f12.length → Ev (fun k => orchestratorref21_SameMeta.l2 k (j : Int) o.f0.f0 o.f0.f1 o.f0.f2 o.f0.f3 o.f0.f4 o.f0.f5 o.f0.f6 o.f0.f7 o.f0.f8 o.f0.f9 o.f0.f10 o.f0.f11 o.f0.f12 o.f0.f0 o.f0.f1 o.f0.f2 o.f0.f3 o.f0.f4 o.f0.f5 o.f0.f6 o.f0.f7 o.f0.f8 o.f0.f9 o.f0.f10 o.f0.f11 o.f0.f12) true := by
  intro d
  induction d with
  | zero =>
    intro j hj
    have : j = o.f0.f12.length := by omega
    subst this
    refine Ev.step (fun k => rfl) ?_
    simp only [orchestratorref21_SameMeta.l2, Int.lt_irrefl, if_false]
    exact Ev.now _
  | succ d ih =>
    intro j hj
    have hlt : j < o.f0.f12.length := by omega
    have h1 : (j : Int) < (o.f0.f12.length : Int) := by omega
    refine Ev.step (fun k => rfl) ?_
    simp only [orchestratorref21_SameMeta.l2, if_pos h1, if_pos (show (0 : Int) ≤ (j : Int) by omega), rd66 hlt, if_true]
    refine Ev.bind (strings_ev _ (hs _ (List.getElem_mem hlt))) ?_
    simp only [if_true, wrap_succ hlt (show o.f0.f12.length ≤ 4611686018427387904 by omega)]
    exact ih (j + 1) (by omega)
theorem meta1 (o : S33) (hn : o.f0.f12.length ≤ 140737488351232) (hs : ∀ y ∈ o.f0.f12, y.f1.length ≤ 4611686018427387904) (hm : o.f0.f10.length ≤ 140737488351232) : ∀ (d j : Nat), j + d = o.f0.f10.length → Ev (fun k => orchestratorref21_SameMeta.l1 k (j : Int) o.f0.f0 o.f0.f1 o.f0.f2 o.f0.f3 o.f0.f4 o.f0.f5 o.f0.f6 o.f0.f7 o.f0.f8 o.f0.f9 o.f0.f10 o.f0.f11 o.f0.f12 o.f0.f0 o.f0.f1 o.f0.f2 o.f0.f3 o.f0.f4 o.f0.f5 o.f0.f6 o.f0.f7 o.f0.f8 o.f0.f9 o.f0.f10 o.f0.f11 o.f0.f12) true := by
  intro d
  induction d with
  | zero =>
    intro j hj
    have : j = o.f0.f10.length := by omega
    subst this
    refine Ev.step (fun k => rfl) ?_
    simp only [orchestratorref21_SameMeta.l1, Int.lt_irrefl, if_false]
    exact meta2 o hn hs o.f0.f12.length 0 (by omega)
  | succ d ih =>
    intro j hj
    have hlt : j < o.f0.f10.length := by omega
    have h1 : (j : Int) < (o.f0.f10.length : Int) := by omega
    refine Ev.step (fun k => rfl) ?_
    simp only [orchestratorref21_SameMeta.l1, if_pos h1, if_pos (show (0 : Int) ≤ (j : Int) by omega), rd62 hlt, beq_self_eq_true, Bool.not_true, Bool.or_self, Bool.false_eq_true, if_false, wrap_succ hlt (show o.f0.f10.length ≤ 4611686018427387904 by omega)]
    exact ih (j + 1) (by omega)
theorem meta0 (o : S33) (hn : o.f0.f12.length ≤ 140737488351232) (hs : ∀ y ∈ o.f0.f12, y.f1.length ≤ 4611686018427387904) (hm : o.f0.f10.length ≤ 140737488351232) (hb : o.f0.f9.length ≤ 140737488351232) : ∀ (d j : Nat), j + d = o.f0.f9.length → Ev (fun k => orchestratorref21_SameMeta.l0 k (j : Int) o.f0.f0 o.f0.f1 o.f0.f2 o.f0.f3 o.f0.f4 o.f0.f5 o.f0.f6 o.f0.f7 o.f0.f8 o.f0.f9 o.f0.f10 o.f0.f11 o.f0.f12 o.f0.f0 o.f0.f1 o.f0.f2 o.f0.f3 o.f0.f4 o.f0.f5 o.f0.f6 o.f0.f7 o.f0.f8 o.f0.f9 o.f0.f10 o.f0.f11 o.f0.f12) true := by
  intro d
  induction d with
  | zero =>
    intro j hj
    have : j = o.f0.f9.length := by omega
    subst this
    refine Ev.step (fun k => rfl) ?_
    simp only [orchestratorref21_SameMeta.l0, Int.lt_irrefl, if_false]
    exact meta1 o hn hs hm o.f0.f10.length 0 (by omega)
  | succ d ih =>
    intro j hj
    have hlt : j < o.f0.f9.length := by omega
    have h1 : (j : Int) < (o.f0.f9.length : Int) := by omega
    refine Ev.step (fun k => rfl) ?_
    simp only [orchestratorref21_SameMeta.l0, if_pos h1, if_pos (show (0 : Int) ≤ (j : Int) by omega), rd59 hlt, beq_self_eq_true, Bool.not_true, Bool.or_self, Bool.false_eq_true, if_false, wrap_succ hlt (show o.f0.f9.length ≤ 4611686018427387904 by omega)]
    exact ih (j + 1) (by omega)
theorem same_ev (o : S33) (ho : X33 o) : Ev (fun k => orchestratorref21_Same.f k o.f0.f0 o.f0.f1 o.f0.f2 o.f0.f3 o.f0.f4 o.f0.f5 o.f0.f6 o.f0.f7 o.f0.f8 o.f0.f9 o.f0.f10 o.f0.f11 o.f0.f12 o.f1.f0 o.f1.f1 o.f1.f2 o.f1.f3 o.f1.f4 o.f2.f0 o.f2.f1 o.f2.f2 o.f2.f3 o.f2.f4 o.f0.f0 o.f0.f1 o.f0.f2 o.f0.f3 o.f0.f4 o.f0.f5 o.f0.f6 o.f0.f7 o.f0.f8 o.f0.f9 o.f0.f10 o.f0.f11 o.f0.f12 o.f1.f0 o.f1.f1 o.f1.f2 o.f1.f3 o.f1.f4 o.f2.f0 o.f2.f1 o.f2.f2 o.f2.f3 o.f2.f4) true := by
  have h := ho.1.2.2.2.2.2.2.2.2.2
  have b1 := len_of h.1 (by decide)
  have b2 := len_of h.2.1 (by decide)
  have b3 := len_of h.2.2.1 (by decide)
  have b4 := len_of h.2.2.2 (by decide)
  have b5 : ∀ y ∈ o.f0.f12, y.f1.length ≤ 4611686018427387904 := fun y hy => by have := len_of (h.2.2.2.2 y hy).2 (by decide); omega
  have hm : Ev (fun k => orchestratorref21_SameMeta.f k o.f0.f0 o.f0.f1 o.f0.f2 o.f0.f3 o.f0.f4 o.f0.f5 o.f0.f6 o.f0.f7 o.f0.f8 o.f0.f9 o.f0.f10 o.f0.f11 o.f0.f12 o.f0.f0 o.f0.f1 o.f0.f2 o.f0.f3 o.f0.f4 o.f0.f5 o.f0.f6 o.f0.f7 o.f0.f8 o.f0.f9 o.f0.f10 o.f0.f11 o.f0.f12) true := by
    unfold orchestratorref21_SameMeta.f
    simp only [if_true, bne_self_eq_false, Bool.false_eq_true, if_false]
    refine Ev.step (fun k => rfl) ?_
    simp only [orchestratorref21_SameMeta.j0, if_true, Bool.false_eq_true, if_false]
    refine Ev.bind (strings_ev o.f0.f11 (by omega)) ?_
    simp only [if_true, bne_self_eq_false]
    refine Ev.step (fun k => rfl) ?_
    simp only [orchestratorref21_SameMeta.j1, Bool.false_eq_true, if_false]
    exact meta0 o b4 b5 b2 b1 o.f0.f9.length 0 (by omega)
  have hv := fun (x : S31) (hx : X31 x) => same_ok x hx
  unfold orchestratorref21_Same.f
  refine Ev.bind hm ?_
  simp only [if_true]
  refine Ev.bind (hv o.f1 ho.2.1) ?_
  simp only [if_true]
  refine Ev.bind (hv o.f2 ho.2.2) ?_
  exact Ev.now _
end Go.Proofs.Ythkdpkgkejdcgaa.Pure
