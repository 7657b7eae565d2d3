/- The pure statement of TaintOrder: the order of taints and of tolerations does not matter; a toleration of everything tolerates everything. Conditions: none. -/
import Derived.Test.YtkhmcockeikobaaQSTaintOrder
import Derived.Test.YtkhmcockeikobaaPLeave
import Derived.Test.YtkhmcockeikobaaPLives
namespace Go.Proofs.Ytkhmcockeikobaa.Pure
open Go.RowKit Go.Proofs.Ytkhmcockeikobaa.Q Go.Proofs.Ytkhmcockeikobaa.Opn Go.Proofs.YtkhmcockeikobaaW.PrintWords Go.Proofs.YtkhmcockeikobaaW.PrintLast Go.Proofs.YtkhmcockeikobaaW.PrintMore Go.Proofs.Ytkhmcockeikobaa.Pur
set_option linter.unusedVariables false
set_option linter.unusedSimpArgs false
theorem any_rev {α : Type} (p : α → Bool) (l : List α) : l.reverse.any p = l.any p := by
  rw [Bool.eq_iff_iff]
  simp [List.any_eq_true]
theorem tolA_rev (x : S25) (t : List S23) : tolA x t.reverse = tolA x t := any_rev _ _
theorem blk_rev (t : List S23) : blk t.reverse = blk t := by
  funext x
  unfold blk
  rw [tolA_rev]
theorem blocks_rev (x : List S25) (t : List S23) : blocksS x.reverse t.reverse = blocksS x t := by
  unfold blocksS
  rw [blk_rev, any_rev]
theorem soft_rev (x : List S25) (t : List S23) : softS x.reverse t.reverse = softS x t := by
  have e : soft t.reverse = soft t := by
    funext y
    unfold soft
    rw [tolA_rev]
  unfold softS
  rw [e, List.filter_reverse, List.length_reverse]
theorem leave_rev (t : List S23) : leaveS t.reverse = leaveS t := by
  funext x
  have h : ∀ z, z ∈ secs t.reverse x ↔ z ∈ secs t x := by intro z; simp [secs, List.filter_reverse]
  unfold leaveS
  rw [least_eq h, show (secs t.reverse x).any (· < 0) = (secs t x).any (· < 0) from by rw [show secs t.reverse x = (secs t x).reverse from by simp [secs, List.filter_reverse], any_rev]]
theorem evict_rev (x : List S25) (t : List S23) : evictS x.reverse t.reverse = evictS x t := by
  have e : times x.reverse t.reverse = (times x t).reverse := by
    unfold times
    rw [leave_rev, List.filter_reverse, List.map_reverse]
  unfold evictS
  rw [e, least_eq (m := times x t) (fun z => by simp)]
  simp
/-- The toleration of everything, for ever. -/
def all23 : S23 := ⟨(⟨#[]⟩ : ByteArray), (⟨#[]⟩ : ByteArray), true, 0, (-1)⟩
theorem tol_all (x : S25) : tolB all23 x = true := by
  unfold tolB taint_Tolerates.f all23
  rw [if_pos (by decide +kernel)]
  rfl
theorem tolA_all (x : S25) (t : List S23) : tolA x (t ++ [all23]) = true := by
  unfold tolA
  rw [List.any_append]
  simp [tol_all]
theorem blocks_all (x : List S25) (t : List S23) : blocksS x (t ++ [all23]) = false := by
  unfold blocksS
  rw [List.any_eq_false]
  intro y _
  simp [blk, tolA_all]
theorem soft_all (x : List S25) (t : List S23) : softS x (t ++ [all23]) = 0 := by
  unfold softS
  rw [List.filter_eq_nil_iff.2 (fun y _ => by simp [soft, tolA_all])]
  rfl
theorem leave_all (x : S25) (t : List S23) : (leaveS (t ++ [all23]) x).2 = false := by
  have : (secs (t ++ [all23]) x).any (· < 0) = true := by
    refine List.any_eq_true.2 ⟨-1, ?_, by decide⟩
    unfold secs
    exact List.mem_map.2 ⟨all23, List.mem_filter.2 ⟨by simp, tol_all x⟩, rfl⟩
  unfold leaveS
  rw [if_pos this]
theorem evict_all (x : List S25) (t : List S23) : (evictS x (t ++ [all23])).2 = false := by
  unfold evictS times
  rw [List.filter_eq_nil_iff.2 (fun y _ => by simp [leave_all])]
  rfl
theorem to_j3 (x : List S25) (t : List S23) (hx : x.length ≤ 50) (ht : t.length ≤ 50) : Ev (fun k => orchestratorlaw35_TaintOrder.j3 k x t false) true := by
  have hl : (t ++ [all23]).length ≤ 4611686018427387904 := by simp; omega
  refine Ev.step (fun k => rfl) ?_
  simp only [orchestratorlaw35_TaintOrder.j3, Bool.false_eq_true, if_false, if_pos (show t.length < 2513169434916 by omega)]
  refine Ev.bind_some ?_
  refine Ev.bind (evict_ev x (t ++ [all23]) (by omega) hl) (Ev.bind lives_ev ?_)
  simp only [if_true, evict_all, Bool.false_eq_true, if_false]
  refine Ev.bind (blocks_ev x (t ++ [all23]) (by omega) hl) ?_
  simp only [blocks_all, Bool.false_eq_true, if_false]
  refine Ev.bind (soft_ev x (t ++ [all23]) (by omega) hl) ?_
  simp only [soft_all, if_true]
  exact Ev.now _
theorem take_snoc' {α : Type} {l : List α} {d : Nat} (h : d < l.length) : (l.take (d + 1)).reverse = l[d] :: (l.take d).reverse := by
  rw [List.take_succ_eq_append_getElem h, List.reverse_append]
  rfl
theorem to_l1 (x xs : List S25) (t : List S23) (hx : x.length ≤ 50) (ht : t.length ≤ 50) (hxs : xs = x.reverse) : ∀ (d : Nat) (ts : List S23), d ≤ t.length → ts.length + d ≤ 50 → ts ++ (t.take d).reverse = t.reverse → Ev (fun k => orchestratorlaw35_TaintOrder.l1 k x t xs ts ((d : Int) - 1)) true := by
  intro d
  induction d with
  | zero =>
    intro ts hd hb e
    simp only [List.take_zero, List.reverse_nil, List.append_nil] at e
    subst e
    subst hxs
    have h1 : x.reverse.length ≤ 4611686018427387904 := by simp; omega
    have h2 : t.reverse.length ≤ 4611686018427387904 := by simp; omega
    refine Ev.step (fun k => rfl) ?_
    simp only [orchestratorlaw35_TaintOrder.l1]
    refine Ev.neg (by omega) ?_
    refine Ev.bind (evict_ev x t (by omega) (by omega)) (Ev.bind (evict_ev _ _ h1 h2) ?_)
    simp only [evict_rev, if_true, bne_self_eq_false, Bool.false_eq_true, if_false]
    refine Ev.bind (blocks_ev x t (by omega) (by omega)) (Ev.bind (blocks_ev _ _ h1 h2) ?_)
    simp only [blocks_rev, bne_self_eq_false, Bool.false_eq_true, if_false]
    refine Ev.bind (soft_ev x t (by omega) (by omega)) (Ev.bind (soft_ev _ _ h1 h2) ?_)
    simp only [soft_rev, bne_self_eq_false]
    exact to_j3 x t.reverse hx (by simp; omega)
  | succ d ih =>
    intro ts hd hb e
    have hlt : d < t.length := by omega
    refine Ev.step (fun k => rfl) ?_
    simp only [orchestratorlaw35_TaintOrder.l1, show (((d + 1 : Nat) : Int) - 1) = (d : Int) by omega, rd23 hlt]
    refine Ev.pos (by omega) (Ev.pos (by omega) (Ev.pos (by omega) (Ev.pos (by omega) ?_)))
    rw [show wrap64 ((d : Int) - 1) = (d : Int) - 1 from by unfold wrap64; omega]
    refine ih (ts ++ [t[d]]) (by omega) (by simp; omega) ?_
    rw [← e, take_snoc' hlt, List.append_assoc]
    rfl
theorem to_l0 (x : List S25) (t : List S23) (hx : x.length ≤ 50) (ht : t.length ≤ 50) : ∀ (d : Nat) (xs : List S25), d ≤ x.length → xs.length + d ≤ 50 → xs ++ (x.take d).reverse = x.reverse → Ev (fun k => orchestratorlaw35_TaintOrder.l0 k x t xs ((d : Int) - 1)) true := by
  intro d
  induction d with
  | zero =>
    intro xs hd hb e
    simp only [List.take_zero, List.reverse_nil, List.append_nil] at e
    refine Ev.step (fun k => rfl) ?_
    simp only [orchestratorlaw35_TaintOrder.l0]
    refine Ev.neg (by omega) ?_
    rw [show wrap64 ((t.length : Int) - 1) = (t.length : Int) - 1 from by unfold wrap64; omega]
    exact to_l1 x xs t hx ht e t.length [] (Nat.le_refl _) (by simpa using ht) (by simp)
  | succ d ih =>
    intro xs hd hb e
    have hlt : d < x.length := by omega
    refine Ev.step (fun k => rfl) ?_
    simp only [orchestratorlaw35_TaintOrder.l0, show (((d + 1 : Nat) : Int) - 1) = (d : Int) by omega, rd25 hlt]
    refine Ev.pos (by omega) (Ev.pos (by omega) (Ev.pos (by omega) (Ev.pos (by omega) ?_)))
    rw [show wrap64 ((d : Int) - 1) = (d : Int) - 1 from by unfold wrap64; omega]
    refine ih (xs ++ [x[d]]) (by omega) (by simp; omega) ?_
    rw [← e, take_snoc' hlt, List.append_assoc]
    rfl
theorem to_j0 (x : List S25) (t : List S23) (b : Bool) (h : b = false → x.length ≤ 50 ∧ t.length ≤ 50) : Ev (fun k => orchestratorlaw35_TaintOrder.j0 k x t b) true := by
  refine Ev.step (fun k => rfl) ?_
  simp only [orchestratorlaw35_TaintOrder.j0]
  cases b with
  | true => simp only [if_true]; exact Ev.bind lives_ev (Ev.now _)
  | false =>
    obtain ⟨hx, ht⟩ := h rfl
    simp only [Bool.false_eq_true, if_false]
    rw [show wrap64 ((x.length : Int) - 1) = (x.length : Int) - 1 from by unfold wrap64; omega]
    exact to_l0 x t hx ht x.length [] (Nat.le_refl _) (by simpa using hx) (by simp)
theorem TaintOrder : orchestratorlaw35_TaintOrder.Pure := by
  intro x t hx ht
  refine Ev.rounds (g := fun k => orchestratorlaw35_TaintOrder.f k x t) ?_
  unfold orchestratorlaw35_TaintOrder.f
  refine Ev.ite (fun h => to_j0 _ _ _ (fun e => by cases e)) (fun h => to_j0 _ _ _ (fun e => ?_))
  have := of_decide_eq_false e
  omega
end Go.Proofs.Ytkhmcockeikobaa.Pure
