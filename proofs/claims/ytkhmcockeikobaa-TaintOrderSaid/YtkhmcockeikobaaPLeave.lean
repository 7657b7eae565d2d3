/- When a pod has to leave: the program's EvictAt in plain terms. Conditions: lists of at most 2^62 elements. -/
import Derived.Test.YtkhmcockeikobaaPSpec
namespace Go.Proofs.Ytkhmcockeikobaa.Pure
open Go.RowKit Go.Proofs.Ytkhmcockeikobaa.Q Go.Proofs.Ytkhmcockeikobaa.Opn Go.Proofs.YtkhmcockeikobaaW.PrintWords Go.Proofs.YtkhmcockeikobaaW.PrintLast Go.Proofs.YtkhmcockeikobaaW.PrintMore Go.Proofs.Ytkhmcockeikobaa.Pur
set_option linter.unusedVariables false
set_option linter.unusedSimpArgs false
/-- The least of a list; 0 of none. -/
def least : List Int → Int
  | [] => 0
  | a :: r => r.foldl min a
theorem foldl_min_le (r : List Int) : ∀ a, r.foldl min a ≤ a ∧ (∀ x ∈ r, r.foldl min a ≤ x) ∧ (r.foldl min a = a ∨ r.foldl min a ∈ r) := by
  induction r with
  | nil => intro a; simp
  | cons b r ih =>
    intro a
    obtain ⟨h1, h2, h3⟩ := ih (min a b)
    simp only [List.foldl_cons]
    refine ⟨by omega, ?_, ?_⟩
    · intro x hx
      rcases List.mem_cons.1 hx with rfl | hx
      · omega
      · exact h2 x hx
    · rcases h3 with h3 | h3
      · rcases Int.le_total a b with h | h
        · left; rw [h3]; omega
        · right; rw [h3, Int.min_eq_right h]; exact List.mem_cons_self
      · right; exact List.mem_cons_of_mem _ h3
theorem least_le {l : List Int} {x : Int} (hx : x ∈ l) : least l ≤ x := by
  cases l with
  | nil => cases hx
  | cons a r =>
    obtain ⟨h1, h2, _⟩ := foldl_min_le r a
    rcases List.mem_cons.1 hx with rfl | hx
    · exact h1
    · exact h2 x hx
theorem least_mem {l : List Int} (h : l ≠ []) : least l ∈ l := by
  cases l with
  | nil => exact absurd rfl h
  | cons a r =>
    obtain ⟨_, _, h3⟩ := foldl_min_le r a
    rcases h3 with h3 | h3
    · show r.foldl min a ∈ _
      rw [h3]; exact List.mem_cons_self
    · exact List.mem_cons_of_mem _ h3
/-- The least is told by membership alone. -/
theorem least_eq {l m : List Int} (h : ∀ x, x ∈ l ↔ x ∈ m) : least l = least m := by
  by_cases e : l = []
  · subst e
    have : m = [] := List.eq_nil_iff_forall_not_mem.2 (fun x hx => by simpa using (h x).2 hx)
    rw [this]
  · have e2 : m ≠ [] := fun e2 => e (List.eq_nil_iff_forall_not_mem.2 (fun x hx => by have := (h x).1 hx; rw [e2] at this; cases this))
    have h1 := least_le ((h _).2 (least_mem e2))
    have h2 := least_le ((h _).1 (least_mem e))
    omega
theorem least_snoc (l : List Int) (a : Int) : least (l ++ [a]) = if l = [] then a else min (least l) a := by
  cases l with
  | nil => rfl
  | cons b r => simp [least, List.foldl_append]
/-- The seconds of the tolerations that match x. -/
def secs (t : List S23) (x : S25) : List Int := (t.filter (fun y => tolB y x)).map (·.f4)
def cl (n : Int) : Int := min (max n 0) 1000000000000
/-- When x requires the pod to leave (told where it is NoExecute). -/
def leaveS (t : List S23) (x : S25) : Int × Bool := if (secs t x).any (· < 0) then (0, false) else (min (cl x.f3 + cl (least (secs t x))) 1000000000000, true)
/-- The loop as the code runs it. -/
def lv (x : S25) : Int → List S23 → Int × Bool
  | s, [] => (min (cl x.f3 + cl s) 1000000000000, true)
  | s, y :: r => if tolB y x = true then (if y.f4 < 0 then (0, false) else if s < 0 then lv x y.f4 r else if y.f4 < s then lv x y.f4 r else lv x s r) else lv x s r
theorem lv_eq (x : S25) (t : List S23) : ∀ s : Int, 0 ≤ s → lv x s t = if (secs t x).any (· < 0) then (0, false) else (min (cl x.f3 + cl ((secs t x).foldl min s)) 1000000000000, true) := by
  induction t with
  | nil => intro s hs; rfl
  | cons y r ih =>
    intro s hs
    by_cases hy : tolB y x = true
    · have e : secs (y :: r) x = y.f4 :: secs r x := by simp [secs, List.filter_cons, hy]
      rw [e]
      by_cases h0 : y.f4 < 0
      · simp [lv, hy, h0]
      · by_cases h1 : y.f4 < s
        · rw [show lv x s (y :: r) = lv x y.f4 r from by simp [lv, hy, h0, h1, show ¬ s < 0 by omega], ih _ (by omega)]
          simp [h0, show min s y.f4 = y.f4 by omega]
        · rw [show lv x s (y :: r) = lv x s r from by simp [lv, hy, h0, h1, show ¬ s < 0 by omega], ih _ hs]
          simp [h0, show min s y.f4 = s by omega]
    · have e : secs (y :: r) x = secs r x := by simp [secs, List.filter_cons, hy]
      rw [e, ← ih s hs]
      simp [lv, hy]
theorem lv_none (x : S25) (t : List S23) (s : Int) (hs : s < 0) : lv x s t = leaveS t x := by
  induction t with
  | nil =>
    have h0 : cl s = 0 := by unfold cl; omega
    simp only [lv, leaveS, secs, List.filter_nil, List.map_nil, List.any_nil, least, h0]
    rfl
  | cons y r ih =>
    by_cases hy : tolB y x = true
    · have e : secs (y :: r) x = y.f4 :: secs r x := by simp [secs, List.filter_cons, hy]
      by_cases h0 : y.f4 < 0
      · simp [lv, leaveS, hy, h0, e]
      · rw [show lv x s (y :: r) = lv x y.f4 r from by simp [lv, hy, h0, hs], lv_eq x r _ (by omega)]
        unfold leaveS
        rw [e]
        simp [h0, least]
    · have e : secs (y :: r) x = secs r x := by simp [secs, List.filter_cons, hy]
      unfold leaveS at ih ⊢
      rw [e, ← ih]
      simp [lv, hy]
theorem leaves_ev (x : S25) (t : List S23) (ht : t.length ≤ 4611686018427387904) : Ev (fun k => taint_leaves.f k x.f0 x.f1 x.f2 x.f3 t) (leaveS t x) := by
  unfold taint_leaves.f
  rw [← lv_none x t (-1) (by omega)]
  refine for_loop0 t (fun k s i => taint_leaves.l0 k s t (t.length : Int) i x.f0 x.f1 x.f2 x.f3) (lv x) ?_ ?_ (-1)
  · intro s
    refine Ev.step (fun k => rfl) ?_
    simp only [taint_leaves.l0, Int.lt_irrefl, if_false, mx_eq, mn_eq]
    exact Ev.now _
  · intro s j hj ih
    have h1 : (j : Int) < (t.length : Int) := by omega
    refine Ev.step (fun k => rfl) ?_
    simp only [taint_leaves.l0, if_pos h1, if_pos (show (0 : Int) ≤ (j : Int) by omega), rd23 hj, wrap_succ hj ht, tol_some, Option.bind_some, lv]
    by_cases hy : tolB t[j] x = true
    · simp only [if_pos hy]
      by_cases h0 : t[j].f4 < 0
      · simp only [if_pos h0]; exact Ev.now _
      · simp only [if_neg h0]
        by_cases h2 : s < 0
        · simp only [if_pos h2]; exact ih _
        · simp only [if_neg h2]
          by_cases h3 : t[j].f4 < s
          · simp only [if_pos h3]; exact ih _
          · simp only [if_neg h3]; exact ih _
    · simp only [if_neg hy]; exact ih _
/-- The times at which taints of x require the pod to leave. -/
def times (x : List S25) (t : List S23) : List Int := (x.filter (fun y => y.f2 == 3 && (leaveS t y).2)).map (fun y => (leaveS t y).1)
def evictS (x : List S25) (t : List S23) : Int × Bool := (least (times x t), !(times x t).isEmpty)
/-- The loop as the code runs it. -/
def ev (t : List S23) : Int × Bool → List S25 → Int × Bool
  | s, [] => s
  | s, y :: r => if y.f2 = 3 then (if (leaveS t y).2 = true then (if s.2 = true then (if (leaveS t y).1 < s.1 then ev t ((leaveS t y).1, true) r else ev t s r) else ev t ((leaveS t y).1, true) r) else ev t s r) else ev t s r
theorem times_cons_yes {y : S25} {r : List S25} {t : List S23} (h : y.f2 = 3) (h' : (leaveS t y).2 = true) : times (y :: r) t = (leaveS t y).1 :: times r t := by simp [times, List.filter_cons, h, h']
theorem times_cons_no {y : S25} {r : List S25} {t : List S23} (h : ¬ (y.f2 = 3 ∧ (leaveS t y).2 = true)) : times (y :: r) t = times r t := by
  have : (y.f2 == 3 && (leaveS t y).2) = false := by
    cases h1 : (y.f2 == 3 && (leaveS t y).2) with
    | false => rfl
    | true => simp only [Bool.and_eq_true, beq_iff_eq] at h1; exact absurd h1 h
  simp [times, List.filter_cons, this]
theorem ev_found (t : List S23) (x : List S25) : ∀ a : Int, ev t (a, true) x = ((times x t).foldl min a, true) := by
  induction x with
  | nil => intro a; rfl
  | cons y r ih =>
    intro a
    by_cases h : y.f2 = 3
    · by_cases h' : (leaveS t y).2 = true
      · rw [times_cons_yes h h']
        simp only [ev, if_pos h, if_pos h', if_true, List.foldl_cons]
        by_cases h2 : (leaveS t y).1 < a
        · rw [if_pos h2, ih, show min a (leaveS t y).1 = (leaveS t y).1 by omega]
        · rw [if_neg h2, ih, show min a (leaveS t y).1 = a by omega]
      · rw [times_cons_no (by simp [h'])]
        simp only [ev, if_pos h, if_neg h']
        exact ih a
    · rw [times_cons_no (by simp [h])]
      simp only [ev, if_neg h]
      exact ih a
theorem ev_eq (t : List S23) (x : List S25) : ev t (0, false) x = evictS x t := by
  induction x with
  | nil => rfl
  | cons y r ih =>
    by_cases h : y.f2 = 3
    · by_cases h' : (leaveS t y).2 = true
      · unfold evictS
        rw [times_cons_yes h h']
        simp only [ev, if_pos h, if_pos h', Bool.false_eq_true, if_false, ev_found]
        rfl
      · unfold evictS at ih ⊢
        rw [times_cons_no (by simp [h']), ← ih]
        simp only [ev, if_pos h, if_neg h']
    · unfold evictS at ih ⊢
      rw [times_cons_no (by simp [h]), ← ih]
      simp only [ev, if_neg h]
theorem evict_ev (x : List S25) (t : List S23) (hx : x.length ≤ 4611686018427387904) (ht : t.length ≤ 4611686018427387904) : Ev (fun k => taint_EvictAt.f k x t) (evictS x t) := by
  unfold taint_EvictAt.f
  rw [← ev_eq]
  refine for_loop0 x (fun k (s : Int × Bool) i => taint_EvictAt.l0 k t s.1 s.2 x (x.length : Int) i) (ev t) ?_ ?_ (0, false)
  · intro s
    refine Ev.step (fun k => rfl) ?_
    simp only [taint_EvictAt.l0, Int.lt_irrefl, if_false]
    exact Ev.now _
  · intro s j hj ih
    have h1 : (j : Int) < (x.length : Int) := by omega
    refine Ev.step (fun k => rfl) ?_
    simp only [taint_EvictAt.l0, if_pos h1, if_pos (show (0 : Int) ≤ (j : Int) by omega), rd25 hj, wrap_succ hj hx, ev]
    by_cases h : x[j].f2 = 3
    · simp only [if_pos h]
      refine Ev.bind (leaves_ev x[j] t ht) ?_
      by_cases h' : (leaveS t x[j]).2 = true
      · simp only [if_pos h']
        by_cases h2 : s.2 = true
        · simp only [if_pos h2]
          by_cases h3 : (leaveS t x[j]).1 < s.1
          · simp only [if_pos h3]; exact ih (_, true)
          · simp only [if_neg h3]; exact ih s
        · simp only [if_neg h2]; exact ih (_, true)
      · simp only [if_neg h']; exact ih s
    · simp only [if_neg h]; exact ih s
end Go.Proofs.Ytkhmcockeikobaa.Pure
