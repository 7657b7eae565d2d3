/- Part of a claim: see its row. Conditions: stated at each. -/
import Derived.Test.YtkdikhonafbgdaaZRQ16
import Derived.Test.YtkdikhonafbgdaaZRPLive
namespace Go.Proofs.Ytkdikhonafbgdaa.Pure
open Go.RowKit Go.Proofs.Ytkdikhonafbgdaa.Q Go.Proofs.Ytkdikhonafbgdaa.Opn Go.Proofs.YtkdikhonafbgdaaW.PrintWords Go.Proofs.YtkdikhonafbgdaaW.PrintLast Go.Proofs.YtkdikhonafbgdaaW.PrintMore Go.Proofs.Ytkdikhonafbgdaa.Pur
set_option linter.unusedVariables false
set_option linter.unusedSimpArgs false
theorem rd41 {l : List S41} {j : Nat} (h : j < l.length) : rd_T41 l (j : Int) = l[j] := getD_nat h
def inn (A : Nat → Nat → Bool) (i : Nat) : Nat → Nat → List S48 → List S48
  | 0, _, m => m
  | d + 1, j, m => inn A i d (j + 1) (if i ≠ j ∧ A i j = true then m ++ [(⟨(i : Int), (j : Int)⟩ : S48)] else m)
def outs (A : Nat → Nat → Bool) (n : Nat) : Nat → Nat → List S48 → List S48
  | 0, _, m => m
  | d + 1, i, m => outs A n d (i + 1) (inn A i n 0 m)
theorem inn_len (A : Nat → Nat → Bool) (i : Nat) : ∀ (d j : Nat) (m : List S48), (inn A i d j m).length ≤ m.length + d := by
  intro d
  induction d with
  | zero => intro j m; simp [inn]
  | succ d ih =>
    intro j m
    simp only [inn]
    refine Nat.le_trans (ih _ _) ?_
    split <;> simp <;> omega
def alw (l : List S54) (ps : List S41) (n : Int) (i j : Nat) : Bool := allowedB l n (ps.getD i z41) (ps.getD j z41)
theorem getz {ps : List S41} {i : Nat} (h : i < ps.length) : ps.getD i z41 = ps[i] := by simp [List.getD_eq_getElem?_getD, List.getElem?_eq_getElem h]
theorem reach_l1 (l : List S54) (ps : List S41) (n : Int) (hl : XL 248 X54 l) (hp : XL 480 X41 ps) (h12 : ps.length ≤ 12) (i : Nat) (hi : i < ps.length) (R : List S48) :
    ∀ (d j : Nat), j + d = ps.length → ∀ m : List S48, m.length + d ≤ 1000 → Ev (fun k => netpolicy_Reach.l0 k l ps n (inn (alw l ps n) i d j m) (ps.length : Int) ((i + 1 : Nat) : Int)) R → Ev (fun k => netpolicy_Reach.l1 k l ps n m (i : Int) (ps.length : Int) (i : Int) (ps.length : Int) (j : Int)) R := by
  intro d
  induction d with
  | zero =>
    intro j hj m hm h
    have : j = ps.length := by omega
    subst this
    refine Ev.step (fun k => rfl) ?_
    simp only [netpolicy_Reach.l1, Int.lt_irrefl, if_false, wrap_succ hi (show ps.length ≤ 4611686018427387904 by omega)]
    exact h
  | succ d ih =>
    intro j hj m hm h
    have hlt : j < ps.length := by omega
    have h1 : (j : Int) < (ps.length : Int) := by omega
    have h2 : (i : Int) < (ps.length : Int) := by omega
    refine Ev.step (fun k => rfl) ?_
    simp only [netpolicy_Reach.l1, if_pos h1, if_pos h2, if_pos (show (0 : Int) ≤ (j : Int) by omega), if_pos (show (0 : Int) ≤ (i : Int) by omega), rd41 hlt, rd41 hi, wrap_succ hlt (show ps.length ≤ 4611686018427387904 by omega)]
    simp only [inn] at h
    refine Ev.ite (fun hij => ?_) (fun hij => ?_)
    · refine ih (j + 1) (by omega) m (by omega) ?_
      rwa [if_neg (by intro hh; exact hh.1 (by omega))] at h
    · refine Ev.bind (allowed_ev l ps[i] ps[j] n hl (hp.2 _ (List.getElem_mem hi)) (hp.2 _ (List.getElem_mem hlt))) ?_
      refine Ev.ite (fun hb => ?_) (fun hb => ?_)
      · simp only [if_pos (show m.length < 8796093022208 by omega)]
        refine ih (j + 1) (by omega) _ (by simp; omega) ?_
        rwa [if_pos (⟨by omega, by simpa only [alw, getz hi, getz hlt] using hb⟩ : i ≠ j ∧ alw l ps n i j = true)] at h
      · refine ih (j + 1) (by omega) m (by omega) ?_
        rwa [if_neg (by intro hh; exact hb (by simpa only [alw, getz hi, getz hlt] using hh.2))] at h
theorem reach_l0 (l : List S54) (ps : List S41) (n : Int) (hl : XL 248 X54 l) (hp : XL 480 X41 ps) (h12 : ps.length ≤ 12) :
    ∀ (d i : Nat), i + d = ps.length → ∀ m : List S48, m.length + d * 12 ≤ 900 → Ev (fun k => netpolicy_Reach.l0 k l ps n m (ps.length : Int) (i : Int)) (outs (alw l ps n) ps.length d i m) := by
  intro d
  induction d with
  | zero =>
    intro i hi m hm
    have : i = ps.length := by omega
    subst this
    refine Ev.step (fun k => rfl) ?_
    simp only [netpolicy_Reach.l0, Int.lt_irrefl, if_false]
    exact Ev.now _
  | succ d ih =>
    intro i hi m hm
    have h1 : (i : Int) < (ps.length : Int) := by omega
    have hn := inn_len (alw l ps n) i ps.length 0 m
    refine Ev.step (fun k => rfl) ?_
    simp only [netpolicy_Reach.l0, if_pos h1]
    exact reach_l1 l ps n hl hp h12 i (by omega) _ ps.length 0 (by omega) m (by omega) (ih (i + 1) (by omega) _ (by omega))
theorem reach_ev (l : List S54) (ps : List S41) (n : Int) (hl : XL 248 X54 l) (hp : XL 480 X41 ps) (h12 : ps.length ≤ 12) : Ev (fun k => netpolicy_Reach.f k l ps n) (outs (alw l ps n) ps.length ps.length 0 []) :=
  reach_l0 l ps n hl hp h12 ps.length 0 (by omega) [] (by simp; omega)
theorem pairs_ev (l : List S48) (hl : l.length ≤ 4611686018427387904) : Ev (fun k => orchestratorref57_Pairs.f k l l) true := by
  unfold orchestratorref57_Pairs.f
  refine Ev.pos rfl ?_
  have key : ∀ (d j : Nat), j + d = l.length → Ev (fun k => orchestratorref57_Pairs.l0 k l l (j : Int)) true := by
    intro d
    induction d with
    | zero =>
      intro j hj
      have : j = l.length := by omega
      subst this
      refine Ev.step (fun k => rfl) ?_
      simp only [orchestratorref57_Pairs.l0, Int.lt_irrefl, if_false]
      exact Ev.now _
    | succ d ih =>
      intro j hj
      have hlt : j < l.length := by omega
      have h1 : (j : Int) < (l.length : Int) := by omega
      refine Ev.step (fun k => rfl) ?_
      simp only [orchestratorref57_Pairs.l0, if_pos h1, if_pos (show (0 : Int) ≤ (j : Int) by omega), wrap_succ hlt hl, BEq.rfl, Bool.not_true, Bool.or_self, Bool.false_eq_true, if_false]
      exact ih (j + 1) (by omega)
  exact key l.length 0 (by omega)
theorem law_l1 (l : List S54) (ps : List S41) (n : Int) (hl : XL 248 X54 l) (hp : XL 480 X41 ps) (h12 : ps.length ≤ 12) (i : Nat) (hi : i < ps.length) :
    ∀ (d j : Nat), j + d = ps.length → ∀ m : List S48, m.length + d ≤ 1000 → Ev (fun k => orchestratorlaw57_NetpolicyReaches.l0 k l ps n (inn (alw l ps n) i d j m) ((i + 1 : Nat) : Int)) true → Ev (fun k => orchestratorlaw57_NetpolicyReaches.l1 k l ps n m (i : Int) (j : Int)) true := by
  intro d
  induction d with
  | zero =>
    intro j hj m hm h
    have : j = ps.length := by omega
    subst this
    refine Ev.step (fun k => rfl) ?_
    simp only [orchestratorlaw57_NetpolicyReaches.l1, Int.lt_irrefl, if_false, wrap_succ hi (show ps.length ≤ 4611686018427387904 by omega)]
    exact h
  | succ d ih =>
    intro j hj m hm h
    have hlt : j < ps.length := by omega
    have h1 : (j : Int) < (ps.length : Int) := by omega
    have h2 : (i : Int) < (ps.length : Int) := by omega
    refine Ev.step (fun k => rfl) ?_
    simp only [orchestratorlaw57_NetpolicyReaches.l1, if_pos h1, if_pos h2, if_pos (show (0 : Int) ≤ (j : Int) by omega), if_pos (show (0 : Int) ≤ (i : Int) by omega), rd41 hlt, rd41 hi, wrap_succ hlt (show ps.length ≤ 4611686018427387904 by omega)]
    simp only [inn] at h
    refine Ev.ite (fun hij => ?_) (fun hij => ?_)
    · refine ih (j + 1) (by omega) m (by omega) ?_
      rwa [if_neg (by intro hh; exact hh.1 (by omega))] at h
    · refine Ev.bind (allowed_ev l ps[i] ps[j] n hl (hp.2 _ (List.getElem_mem hi)) (hp.2 _ (List.getElem_mem hlt))) ?_
      refine Ev.ite (fun hb => ?_) (fun hb => ?_)
      · simp only [if_pos (show m.length < 8796093022208 by omega)]
        refine ih (j + 1) (by omega) _ (by simp; omega) ?_
        rwa [if_pos (⟨by omega, by simpa only [alw, getz hi, getz hlt] using hb⟩ : i ≠ j ∧ alw l ps n i j = true)] at h
      · refine ih (j + 1) (by omega) m (by omega) ?_
        rwa [if_neg (by intro hh; exact hb (by simpa only [alw, getz hi, getz hlt] using hh.2))] at h
theorem outs_len (A : Nat → Nat → Bool) (n : Nat) (hn : n ≤ 12) : ∀ (d i : Nat) (m : List S48), (outs A n d i m).length ≤ m.length + d * 12 := by
  intro d
  induction d with
  | zero => intro i m; simp [outs]
  | succ d ih =>
    intro i m
    simp only [outs]
    have h1 := ih (i + 1) (inn A i n 0 m)
    have h2 := inn_len A i n 0 m
    omega
theorem law_l0 (l : List S54) (ps : List S41) (n : Int) (hl : XL 248 X54 l) (hp : XL 480 X41 ps) (h12 : ps.length ≤ 12) :
    ∀ (d i : Nat), i + d = ps.length → ∀ m : List S48, m.length + d * 12 ≤ 900 → outs (alw l ps n) ps.length d i m = outs (alw l ps n) ps.length ps.length 0 [] → Ev (fun k => orchestratorlaw57_NetpolicyReaches.l0 k l ps n m (i : Int)) true := by
  intro d
  induction d with
  | zero =>
    intro i hi m hm he
    have : i = ps.length := by omega
    subst this
    refine Ev.step (fun k => rfl) ?_
    simp only [orchestratorlaw57_NetpolicyReaches.l0, Int.lt_irrefl, if_false]
    refine Ev.bind lives_ev ?_
    simp only [if_true]
    refine Ev.bind (reach_ev l ps n hl hp h12) ?_
    rw [show m = outs (alw l ps n) ps.length ps.length 0 [] from he]
    refine Ev.bind (pairs_ev _ (by have := outs_len (alw l ps n) ps.length h12 ps.length 0 []; simp at this; omega)) ?_
    simp only [if_true]
    exact Ev.now _
  | succ d ih =>
    intro i hi m hm he
    have h1 : (i : Int) < (ps.length : Int) := by omega
    have hn := inn_len (alw l ps n) i ps.length 0 m
    refine Ev.step (fun k => rfl) ?_
    simp only [orchestratorlaw57_NetpolicyReaches.l0, if_pos h1]
    exact law_l1 l ps n hl hp h12 i (by omega) ps.length 0 (by omega) m (by omega) (ih (i + 1) (by omega) _ (by omega) he)
end Go.Proofs.Ytkdikhonafbgdaa.Pure
