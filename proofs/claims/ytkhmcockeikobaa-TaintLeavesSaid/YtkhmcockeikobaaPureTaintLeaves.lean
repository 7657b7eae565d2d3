/- The pure statement of TaintLeaves: the reference's EvictAt comes to the program's. Conditions: none. -/
import Derived.Test.YtkhmcockeikobaaQSTaintLeaves
import Derived.Test.YtkhmcockeikobaaPRef
import Derived.Test.YtkhmcockeikobaaPLeave
import Derived.Test.YtkhmcockeikobaaPLives
namespace Go.Proofs.Ytkhmcockeikobaa.Pure
open Go.RowKit Go.Proofs.Ytkhmcockeikobaa.Q Go.Proofs.Ytkhmcockeikobaa.Opn Go.Proofs.YtkhmcockeikobaaW.PrintWords Go.Proofs.YtkhmcockeikobaaW.PrintLast Go.Proofs.YtkhmcockeikobaaW.PrintMore Go.Proofs.Ytkhmcockeikobaa.Pur
set_option linter.unusedVariables false
set_option linter.unusedSimpArgs false
/-- The reference's loop. -/
def rlv (since : Int) : Int → List S23 → Int × Bool
  | s, [] => (min 1000000000000 (wrap64 (since + s)), true)
  | s, y :: r => if y.f4 < 0 then (0, false) else rlv since (min s y.f4) r
theorem rlv_eq (since : Int) (l : List S23) : ∀ s : Int, rlv since s l = if (l.map (·.f4)).any (· < 0) then (0, false) else (min 1000000000000 (wrap64 (since + (l.map (·.f4)).foldl min s)), true) := by
  induction l with
  | nil => intro s; rfl
  | cons y r ih =>
    intro s
    by_cases h : y.f4 < 0
    · simp [rlv, h]
    · simp only [rlv, if_neg h, ih, List.map_cons, List.any_cons, List.foldl_cons, decide_eq_false h, Bool.false_or]
theorem foldl_min_out (r : List Int) : ∀ a b : Int, r.foldl min (min a b) = min a (r.foldl min b) := by
  induction r with
  | nil => intro a b; rfl
  | cons c r ih =>
    intro a b
    simp only [List.foldl_cons]
    rw [show min (min a b) c = min a (min b c) by omega, ih]
theorem any_neg_least {l : List Int} (h : l.any (· < 0) = false) : 0 ≤ least l := by
  by_cases e : l = []
  · rw [e]; exact Int.le_refl _
  · have := least_mem e
    have h2 := List.any_eq_false.1 h _ this
    simpa using h2
theorem rleave_spec (since : Int) (t : List S23) (x : S25) (hs : 0 ≤ since) (hs2 : since ≤ 1000000000000) (hne : t.filter (fun y => tolB y x) ≠ []) (hc : cl x.f3 = since) :
    rlv since 1000000000000 (t.filter (fun y => tolB y x)) = leaveS t x := by
  rw [rlv_eq]
  unfold leaveS
  show (if (secs t x).any (· < 0) then _ else _) = _
  cases hn : (secs t x).any (· < 0) with
  | true => rfl
  | false =>
    have h0 := any_neg_least hn
    have hne2 : secs t x ≠ [] := by unfold secs; simpa using hne
    have e : (secs t x).foldl min 1000000000000 = min 1000000000000 (least (secs t x)) := by
      match h : secs t x, hne2 with
      | a :: r, _ => exact foldl_min_out r _ _
    simp only [Bool.false_eq_true, if_false]
    rw [show (t.filter (fun y => tolB y x)).map (·.f4) = secs t x from rfl, e, hc]
    have hw : wrap64 (since + min 1000000000000 (least (secs t x))) = since + min 1000000000000 (least (secs t x)) := by
      unfold wrap64
      omega
    rw [hw]
    have : cl (least (secs t x)) = min (least (secs t x)) 1000000000000 := by unfold cl; omega
    rw [this]
    refine Prod.ext ?_ rfl
    show min 1000000000000 (since + min 1000000000000 (least (secs t x))) = min (since + min (least (secs t x)) 1000000000000) 1000000000000
    omega
theorem rleaves_ev (x : S25) (t : List S23) (ht : t.length ≤ 1099511627776) (hx : x.f2 = 3) : Ev (fun k => orchestratorref35_leaves.f k x.f0 x.f1 x.f2 x.f3 t) (leaveS t x) := by
  unfold orchestratorref35_leaves.f
  refine Ev.pos hx ?_
  refine Ev.bind (matching_ev x t ht) ?_
  simp only [mn_eq, mx_eq]
  have hcl : min 1000000000000 (max 0 x.f3) = cl x.f3 := by unfold cl; omega
  refine Ev.ite (fun h => ?_) (fun h => ?_)
  · have hf : t.filter (fun y => tolB y x) = [] := by
      have : (t.filter (fun y => tolB y x)).length = 0 := by omega
      exact List.length_eq_zero_iff.1 this
    refine Ev.eq (Ev.now _) ?_
    unfold leaveS secs
    rw [hf, hcl]
    have h0 : cl (least (List.map (fun x => x.f4) ([] : List S23))) = 0 := by simp only [least, List.map_nil, cl]; omega
    simp only [h0, List.map_nil, List.any_nil, Bool.false_eq_true, if_false]
    refine Prod.ext ?_ rfl
    show cl x.f3 = min (cl x.f3 + cl (least [])) 1000000000000
    simp only [least]
    unfold cl
    omega
  · have hne : t.filter (fun y => tolB y x) ≠ [] := by
      intro e
      rw [e] at h
      exact h rfl
    rw [hcl, ← rleave_spec (cl x.f3) t x (by unfold cl; omega) (by unfold cl; omega) hne rfl]
    have hl : (t.filter (fun y => tolB y x)).length ≤ 4611686018427387904 := Nat.le_trans (List.length_filter_le _ _) (by omega)
    generalize t.filter (fun y => tolB y x) = l at hl
    refine for_loop0 l (fun k s i => orchestratorref35_leaves.l0 k (cl x.f3) l s i) (rlv (cl x.f3)) ?_ ?_ 1000000000000
    · intro s
      refine Ev.step (fun k => rfl) ?_
      simp only [orchestratorref35_leaves.l0, Int.lt_irrefl, if_false, mn_eq]
      exact Ev.now _
    · intro s j hj ih
      have h1 : (j : Int) < (l.length : Int) := by omega
      refine Ev.step (fun k => rfl) ?_
      simp only [orchestratorref35_leaves.l0, if_pos h1, if_pos (show (0 : Int) ≤ (j : Int) by omega), rd23 hj, wrap_succ hj hl, mn_eq, rlv]
      refine Ev.ite (fun h => ?_) (fun h => ?_)
      · simp only [if_pos h]; exact Ev.now _
      · simp only [if_neg h]; exact ih _
theorem rleaves_no (x : S25) (t : List S23) (hx : ¬ x.f2 = 3) : Ev (fun k => orchestratorref35_leaves.f k x.f0 x.f1 x.f2 x.f3 t) (0, false) := by
  unfold orchestratorref35_leaves.f
  exact Ev.neg hx (Ev.now _)
theorem revict_ev (x : List S25) (t : List S23) (hx : x.length ≤ 1099511627776) (ht : t.length ≤ 1099511627776) : Ev (fun k => orchestratorref35_EvictAt.f k x t) (evictS x t) := by
  unfold orchestratorref35_EvictAt.f
  rw [← ev_eq]
  refine for_loop0 x (fun k (s : Int × Bool) i => orchestratorref35_EvictAt.l0 k x t s.1 s.2 i) (ev t) ?_ ?_ (0, false)
  · intro s
    refine Ev.step (fun k => rfl) ?_
    simp only [orchestratorref35_EvictAt.l0, Int.lt_irrefl, if_false]
    exact Ev.now _
  · intro s j hj ih
    have h1 : (j : Int) < (x.length : Int) := by omega
    refine Ev.step (fun k => rfl) ?_
    simp only [orchestratorref35_EvictAt.l0, if_pos h1, if_pos (show (0 : Int) ≤ (j : Int) by omega), rd25 hj, wrap_succ hj (show x.length ≤ 4611686018427387904 by omega), ev]
    by_cases h : x[j].f2 = 3
    · simp only [if_pos h]
      refine Ev.bind (rleaves_ev x[j] t ht h) ?_
      by_cases h' : (leaveS t x[j]).2 = true
      · simp only [if_pos h']
        by_cases h2 : s.2 = true
        · simp only [if_pos h2]
          by_cases h3 : (leaveS t x[j]).1 < s.1
          · simp only [if_pos h3]; exact ih (_, true)
          · simp only [if_neg h3]; exact ih s
        · simp only [if_neg h2]; exact ih (_, true)
      · simp only [if_neg h']; exact ih s
    · simp only [if_neg h]
      refine Ev.bind (rleaves_no x[j] t h) ?_
      simp only [Bool.false_eq_true, if_false]
      exact ih s
theorem tl_j0 (x : List S25) (t : List S23) (b : Bool) (h : b = false → x.length ≤ 50 ∧ t.length ≤ 50) : Ev (fun k => orchestratorlaw35_TaintLeaves.j0 k x t b) true := by
  refine Ev.step (fun k => rfl) ?_
  simp only [orchestratorlaw35_TaintLeaves.j0]
  cases b with
  | true => simp only [if_true]; exact Ev.bind lives_ev (Ev.now _)
  | false =>
    obtain ⟨hx, ht⟩ := h rfl
    simp only [Bool.false_eq_true, if_false]
    refine Ev.bind (evict_ev x t (by omega) (by omega)) (Ev.bind (revict_ev x t (by omega) (by omega)) (Ev.bind lives_ev ?_))
    simp only [if_true, BEq.rfl]
    exact Ev.now _
theorem TaintLeaves : orchestratorlaw35_TaintLeaves.Pure := by
  intro x t hx ht
  refine Ev.rounds (g := fun k => orchestratorlaw35_TaintLeaves.f k x t) ?_
  unfold orchestratorlaw35_TaintLeaves.f
  refine Ev.ite (fun h => tl_j0 _ _ _ (fun e => by cases e)) (fun h => tl_j0 _ _ _ (fun e => ?_))
  have := of_decide_eq_false e
  omega
end Go.Proofs.Ytkhmcockeikobaa.Pure
