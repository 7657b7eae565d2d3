/- What the functions of package taint come to, in plain terms. Conditions: lists of at most 2^62 elements. -/
import Derived.Test.YtkhmcockeikobaaQ2
import Derived.Test.YtkhmcockeikobaaPur
import Derived.Test.YtkhmcockeikobaaPTol
namespace Go.Proofs.Ytkhmcockeikobaa.Pure
open Go.RowKit Go.Proofs.Ytkhmcockeikobaa.Q Go.Proofs.Ytkhmcockeikobaa.Opn Go.Proofs.YtkhmcockeikobaaW.PrintWords Go.Proofs.YtkhmcockeikobaaW.PrintLast Go.Proofs.YtkhmcockeikobaaW.PrintMore Go.Proofs.Ytkhmcockeikobaa.Pur
set_option linter.unusedVariables false
set_option linter.unusedSimpArgs false
theorem rd23 {l : List S23} {j : Nat} (h : j < l.length) : rd_T23 l (j : Int) = l[j] := getD_nat h
theorem rd25 {l : List S25} {j : Nat} (h : j < l.length) : rd_T25 l (j : Int) = l[j] := getD_nat h
theorem closure_tol (y : S23) (x : S25) : taint_tolerated_1.f y.f0 y.f1 y.f2 y.f3 y.f4 x.f0 x.f1 x.f2 x.f3 = some (tolB y x) := by
  unfold taint_tolerated_1.f
  rw [tol_some]
  rfl
/-- Does a toleration of t match x? -/
def tolA (x : S25) (t : List S23) : Bool := t.any (fun y => tolB y x)
theorem tolerated_ev (x : S25) (t : List S23) (ht : t.length ≤ 4611686018427387904) : Ev (fun k => taint_tolerated.f k x.f0 x.f1 x.f2 x.f3 t) (tolA x t) := by
  unfold taint_tolerated.f api_Toleration_24_c25.f api_Toleration_26_c25.f
  have h := indexFunc_ev z23 t (fun y => tolB y x) (fun k i => api_Toleration_26_c25.l0 k t (t.length : Int) i x.f0 x.f1 x.f2 x.f3) (fun _ y => taint_tolerated_1.f y.f0 y.f1 y.f2 y.f3 y.f4 x.f0 x.f1 x.f2 x.f3) ht (fun k i => by simp only [api_Toleration_26_c25.l0]; rfl) (fun y _ => Ev.some (closure_tol y x))
  refine Ev.bind (a := tolA x t) (Ev.bind h ?_) (Ev.now _)
  exact Ev.eq (Ev.now _) (idx_ge _ _ _ (by omega))
/-- Does the taint x keep a pod with the tolerations t away? -/
def blk (t : List S23) (x : S25) : Bool := (x.f2 == 1 || x.f2 == 3) && !tolA x t
theorem blocks1_ev (x : S25) (t : List S23) (ht : t.length ≤ 4611686018427387904) : Ev (fun k => taint_Blocks_1.f k x.f0 x.f1 x.f2 x.f3 t) (blk t x) := by
  unfold taint_Blocks_1.f blk
  refine Ev.ite (fun h => ?_) (fun h => Ev.ite (fun h' => ?_) (fun h' => ?_))
  · simp only [h, BEq.rfl, Bool.true_or, Bool.true_and]
    exact Ev.bind (h ▸ tolerated_ev x t ht) (Ev.now _)
  · simp only [h', BEq.rfl, Bool.or_true, Bool.true_and]
    exact Ev.bind (h' ▸ tolerated_ev x t ht) (Ev.now _)
  · exact Ev.eq (Ev.now _) (by simp [h, h'])
def blocksS (x : List S25) (t : List S23) : Bool := x.any (blk t)
theorem blocks_ev (x : List S25) (t : List S23) (hx : x.length ≤ 4611686018427387904) (ht : t.length ≤ 4611686018427387904) : Ev (fun k => taint_Blocks.f k x t) (blocksS x t) := by
  unfold taint_Blocks.f api_Taint_17_c18.f api_Taint_23_c18.f
  have h := indexFunc_ev z25 x (blk t) (fun k i => api_Taint_23_c18.l0 k x (x.length : Int) i t) (fun k y => taint_Blocks_1.f k y.f0 y.f1 y.f2 y.f3 t) hx (fun k i => by simp only [api_Taint_23_c18.l0]; rfl) (fun y _ => blocks1_ev y t ht)
  refine Ev.bind (a := blocksS x t) (Ev.bind h ?_) (Ev.now _)
  exact Ev.eq (Ev.now _) (idx_ge _ _ _ (by omega))
/-- Should the pod avoid the taint x? -/
def soft (t : List S23) (x : S25) : Bool := x.f2 == 2 && !tolA x t
def softS (x : List S25) (t : List S23) : Int := ((x.filter (soft t)).length : Int)
theorem soft_ev (x : List S25) (t : List S23) (hx : x.length ≤ 4611686018427387904) (ht : t.length ≤ 4611686018427387904) : Ev (fun k => taint_Soft.f k x t) (softS x t) := by
  unfold taint_Soft.f
  have key : ∀ (d j : Nat), j + d = x.length → ∀ n : Nat, n ≤ j → Ev (fun k => taint_Soft.l0 k t (n : Int) x (x.length : Int) (j : Int)) (((n + ((x.drop j).filter (soft t)).length : Nat)) : Int) := by
    intro d
    induction d with
    | zero =>
      intro j hj n hn
      have : j = x.length := by omega
      subst this
      refine Ev.step (fun k => rfl) ?_
      simp only [taint_Soft.l0, Int.lt_irrefl, if_false, List.drop_length, List.filter_nil, List.length_nil, Nat.add_zero]
      exact Ev.now _
    | succ d ih =>
      intro j hj n hn
      have hlt : j < x.length := by omega
      have h1 : (j : Int) < (x.length : Int) := by omega
      rw [List.drop_eq_getElem_cons hlt]
      refine Ev.step (fun k => rfl) ?_
      simp only [taint_Soft.l0, if_pos h1, if_pos (show (0 : Int) ≤ (j : Int) by omega), rd25 hlt, wrap_succ hlt hx]
      refine Ev.ite (fun h => ?_) (fun h => ?_)
      · refine Ev.bind (a := tolA x[j] t) (tolerated_ev x[j] t ht) ?_
        refine Ev.ite (fun h' => ?_) (fun h' => ?_)
        · refine Ev.eq (ih (j + 1) (by omega) n (by omega)) ?_
          rw [List.filter_cons_of_neg (by simp [soft, h'])]
        · rw [show wrap64 ((n : Int) + 1) = ((n + 1 : Nat) : Int) from by unfold wrap64; omega]
          refine Ev.eq (ih (j + 1) (by omega) (n + 1) (by omega)) ?_
          rw [List.filter_cons_of_pos (by simp [soft, h, h'])]
          simp only [List.length_cons]
          omega
      · refine Ev.eq (ih (j + 1) (by omega) n (by omega)) ?_
        rw [List.filter_cons_of_neg (by simp [soft, h])]
  have h := key x.length 0 (by omega) 0 (by omega)
  simpa [softS] using h
end Go.Proofs.Ytkhmcockeikobaa.Pure
