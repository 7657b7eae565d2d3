/- The pure statement of TaintTolerated: what one toleration more, or one taint more, does. Conditions: none. -/
import Derived.Test.YtkhmcockeikobaaQSTaintTolerated
import Derived.Test.YtkhmcockeikobaaPLeave
import Derived.Test.YtkhmcockeikobaaPLives
namespace Go.Proofs.Ytkhmcockeikobaa.Pure
open Go.RowKit Go.Proofs.Ytkhmcockeikobaa.Q Go.Proofs.Ytkhmcockeikobaa.Opn Go.Proofs.YtkhmcockeikobaaW.PrintWords Go.Proofs.YtkhmcockeikobaaW.PrintLast Go.Proofs.YtkhmcockeikobaaW.PrintMore Go.Proofs.Ytkhmcockeikobaa.Pur
set_option linter.unusedVariables false
set_option linter.unusedSimpArgs false
theorem tolA_more {x : S25} {t : List S23} {u : S23} (h : tolA x t = true) : tolA x (t ++ [u]) = true := by
  unfold tolA at h ⊢
  rw [List.any_append, h, Bool.true_or]
theorem blk_more {x : S25} {t : List S23} {u : S23} (h : blk (t ++ [u]) x = true) : blk t x = true := by
  unfold blk at h ⊢
  simp only [Bool.and_eq_true, Bool.not_eq_true'] at h ⊢
  refine ⟨h.1, ?_⟩
  cases e : tolA x t with
  | false => rfl
  | true => rw [tolA_more e] at h; cases h.2
theorem blocks_tol {x : List S25} {t : List S23} {u : S23} (h : blocksS x (t ++ [u]) = true) : blocksS x t = true := by
  unfold blocksS at h ⊢
  obtain ⟨y, hy, h⟩ := List.any_eq_true.1 h
  exact List.any_eq_true.2 ⟨y, hy, blk_more h⟩
theorem filter_len_mono {α : Type} {p q : α → Bool} (l : List α) (h : ∀ x, p x = true → q x = true) : (l.filter p).length ≤ (l.filter q).length := by
  induction l with
  | nil => simp
  | cons x r ih =>
    by_cases hp : p x = true
    · rw [List.filter_cons_of_pos hp, List.filter_cons_of_pos (h x hp)]
      simp only [List.length_cons]
      omega
    · rw [List.filter_cons_of_neg hp]
      by_cases hq : q x = true
      · rw [List.filter_cons_of_pos hq]; simp only [List.length_cons]; omega
      · rw [List.filter_cons_of_neg hq]; exact ih
theorem soft_tol (x : List S25) (t : List S23) (u : S23) : softS x (t ++ [u]) ≤ softS x t := by
  unfold softS
  have := filter_len_mono (p := soft (t ++ [u])) (q := soft t) x (fun y h => by
    unfold soft at h ⊢
    simp only [Bool.and_eq_true, Bool.not_eq_true'] at h ⊢
    refine ⟨h.1, ?_⟩
    cases e : tolA y t with
    | false => rfl
    | true => rw [tolA_more e] at h; cases h.2)
  omega
theorem leave_more {x : S25} {t : List S23} {u : S23} (h : (leaveS (t ++ [u]) x).2 = true) : (leaveS t x).2 = true := by
  have e : secs (t ++ [u]) x = secs t x ++ secs [u] x := by simp [secs, List.filter_append]
  unfold leaveS at h ⊢
  rw [e, List.any_append] at h
  cases hn : (secs t x).any (· < 0) with
  | true => rw [hn] at h; simp at h
  | false => simp
theorem times_isEmpty {x : List S25} {t : List S23} : (!(times x t).isEmpty) = true ↔ ∃ y ∈ x, y.f2 = 3 ∧ (leaveS t y).2 = true := by
  unfold times
  rw [Bool.not_eq_true', ← Bool.not_eq_true, List.isEmpty_iff]
  constructor
  · intro h
    obtain ⟨a, ha⟩ := List.exists_mem_of_ne_nil _ h
    obtain ⟨y, hy, _⟩ := List.mem_map.1 ha
    obtain ⟨h1, h2⟩ := List.mem_filter.1 hy
    simp only [Bool.and_eq_true, beq_iff_eq] at h2
    exact ⟨y, h1, h2⟩
  · rintro ⟨y, h1, h2, h3⟩
    exact List.ne_nil_of_mem (List.mem_map.2 ⟨y, List.mem_filter.2 ⟨h1, by simp [h2, h3]⟩, rfl⟩)
theorem evict_tol {x : List S25} {t : List S23} {u : S23} (h : (evictS x (t ++ [u])).2 = true) : (evictS x t).2 = true := by
  unfold evictS at h ⊢
  obtain ⟨y, h1, h2, h3⟩ := times_isEmpty.1 h
  exact times_isEmpty.2 ⟨y, h1, h2, leave_more h3⟩
theorem times_snoc (x : List S25) (y : S25) (t : List S23) : times (x ++ [y]) t = times x t ++ times [y] t := by simp [times, List.filter_append]
theorem evict_taint {x : List S25} {t : List S23} {y : S25} (h : (evictS x t).2 = true) : (evictS (x ++ [y]) t).2 = true ∧ (evictS (x ++ [y]) t).1 ≤ (evictS x t).1 := by
  unfold evictS at h ⊢
  have hne : times x t ≠ [] := by
    intro e
    rw [e] at h
    cases h
  refine ⟨?_, ?_⟩
  · rw [times_snoc]
    cases e : times x t with
    | nil => exact absurd e hne
    | cons a r => rfl
  · have h1 := least_mem hne
    have h2 : least (times x t) ∈ times (x ++ [y]) t := by rw [times_snoc]; exact List.mem_append_left _ h1
    exact least_le h2
theorem blocks_taint {x : List S25} {t : List S23} {y : S25} (h : blocksS x t = true) : blocksS (x ++ [y]) t = true := by
  unfold blocksS at h ⊢
  rw [List.any_append, h, Bool.true_or]
theorem soft_taint (x : List S25) (t : List S23) (y : S25) : softS x t ≤ softS (x ++ [y]) t := by
  unfold softS
  rw [List.filter_append, List.length_append]
  omega
theorem tt_j1 (x : List S25) (t : List S23) (y : S25) (hx : x.length ≤ 50) (ht : t.length ≤ 50) :
    Ev (fun k => orchestratorlaw35_TaintTolerated.j1 k x t (x ++ [y]) (evictS x t).1 (evictS x t).2 (evictS (x ++ [y]) t).1 (evictS (x ++ [y]) t).2 false) true := by
  have hl : (x ++ [y]).length ≤ 4611686018427387904 := by simp; omega
  have B := blocks_ev x t (by omega) (by omega)
  have B' := blocks_ev (x ++ [y]) t hl (by omega)
  have S := soft_ev x t (by omega) (by omega)
  have S' := soft_ev (x ++ [y]) t hl (by omega)
  have hs : ¬ softS (x ++ [y]) t < softS x t := by have := soft_taint x t y; omega
  refine Ev.step (fun k => rfl) ?_
  simp only [orchestratorlaw35_TaintTolerated.j1, Bool.false_eq_true, if_false]
  have fin : Ev (fun k => if (evictS x t).2 = true then (if (evictS (x ++ [y]) t).2 = true then (if (evictS (x ++ [y]) t).1 > (evictS x t).1 then (some false) else ((orchestratorlaw35_lives.f k).bind fun t245 => (if t245 = true then (some true) else (some false)))) else (some false)) else ((orchestratorlaw35_lives.f k).bind fun t246 => (if t246 = true then (some true) else (some false)))) true := by
    refine Ev.ite (fun h => ?_) (fun h => Ev.bind lives_ev (Ev.now _))
    obtain ⟨h1, h2⟩ := evict_taint (y := y) h
    refine Ev.pos h1 (Ev.neg (by omega) (Ev.bind lives_ev (Ev.now _)))
  refine Ev.bind B (Ev.ite (fun h => ?_) (fun h => ?_))
  · refine Ev.bind B' (Ev.pos (blocks_taint h) ?_)
    exact Ev.bind S' (Ev.bind S (Ev.neg hs fin))
  · exact Ev.bind S' (Ev.bind S (Ev.neg hs fin))
theorem tt_j0 (x : List S25) (t : List S23) (y : S25) (u : S23) (b : Bool) (h : b = false → x.length ≤ 50 ∧ t.length ≤ 50) : Ev (fun k => orchestratorlaw35_TaintTolerated.j0 k x t b y.f0 y.f1 y.f2 y.f3 u.f0 u.f1 u.f2 u.f3 u.f4) true := by
  refine Ev.step (fun k => rfl) ?_
  simp only [orchestratorlaw35_TaintTolerated.j0]
  cases b with
  | true => simp only [if_true]; exact Ev.bind lives_ev (Ev.now _)
  | false =>
    obtain ⟨hx, ht⟩ := h rfl
    simp only [Bool.false_eq_true, if_false, List.nil_append, List.length_nil, Nat.zero_add, Option.bind_some]
    have hl : (x ++ [y]).length ≤ 4611686018427387904 := by simp; omega
    have hl2 : (t ++ [u]).length ≤ 4611686018427387904 := by simp; omega
    simp only [if_pos (show x.length < 2932031007402 by omega), if_pos (show t.length < 2513169434916 by omega)]
    refine Ev.bind (evict_ev x t (by omega) (by omega)) (Ev.bind (evict_ev x (t ++ [u]) (by omega) hl2) (Ev.bind (evict_ev (x ++ [y]) t hl (by omega)) (Ev.bind (blocks_ev x (t ++ [u]) (by omega) hl2) ?_)))
    have fin := tt_j1 x t y hx ht
    have hs : ¬ softS x (t ++ [u]) > softS x t := by have := soft_tol x t u; omega
    have S := soft_ev x t (by omega) (by omega)
    have S' := soft_ev x (t ++ [u]) (by omega) hl2
    refine Ev.ite (fun h => ?_) (fun h => ?_)
    · refine Ev.bind (blocks_ev x t (by omega) (by omega)) (Ev.pos (blocks_tol h) (Ev.bind S' (Ev.bind S (Ev.neg hs ?_))))
      refine Ev.ite (fun h => ?_) (fun h => fin)
      have e := evict_tol h
      have e2 : (!(evictS x t).2) = false := by rw [e]; rfl
      rw [e2]
      exact fin
    · refine Ev.bind S' (Ev.bind S (Ev.neg hs ?_))
      refine Ev.ite (fun h => ?_) (fun h => fin)
      have e := evict_tol h
      have e2 : (!(evictS x t).2) = false := by rw [e]; rfl
      rw [e2]
      exact fin
theorem TaintTolerated : orchestratorlaw35_TaintTolerated.Pure := by
  intro x t y u hx ht hy hu
  refine Ev.rounds (g := fun k => orchestratorlaw35_TaintTolerated.f k x t y.f0 y.f1 y.f2 y.f3 u.f0 u.f1 u.f2 u.f3 u.f4) ?_
  unfold orchestratorlaw35_TaintTolerated.f
  refine Ev.ite (fun h => tt_j0 _ _ _ _ _ (fun e => by cases e)) (fun h => tt_j0 _ _ _ _ _ (fun e => ?_))
  have := of_decide_eq_false e
  omega
end Go.Proofs.Ytkhmcockeikobaa.Pure
