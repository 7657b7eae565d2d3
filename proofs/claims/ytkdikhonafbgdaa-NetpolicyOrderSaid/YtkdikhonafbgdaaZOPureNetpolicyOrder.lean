/- Part of a claim: see its row. Conditions: stated at each. -/
import Derived.Test.YtkdikhonafbgdaaZOQSNetpolicyOrder
import Derived.Test.YtkdikhonafbgdaaZOPLive
namespace Go.Proofs.Ytkdikhonafbgdaa.Pure
open Go.RowKit Go.Proofs.Ytkdikhonafbgdaa.Q Go.Proofs.Ytkdikhonafbgdaa.Opn Go.Proofs.YtkdikhonafbgdaaW.PrintWords Go.Proofs.YtkdikhonafbgdaaW.PrintLast Go.Proofs.YtkdikhonafbgdaaW.PrintMore Go.Proofs.Ytkdikhonafbgdaa.Pur
set_option linter.unusedVariables false
set_option linter.unusedSimpArgs false
def revR (x : S54) : S54 := ⟨x.f0, x.f1, x.f2, x.f3, x.f4.reverse⟩
theorem rd58 {l : List S58} {j : Nat} (h : j < l.length) : rd_T58 l (j : Int) = l[j] := getD_nat h
theorem revR_iso (p : S41) (e : Bool) (x : S54) : isoB p e (revR x) = isoB p e x := rfl
theorem revR_lets (p : S41) (e : Bool) (o : S41) (n : Int) (x : S54) : letsB p e o n (revR x) = letsB p e o n x := by
  unfold letsB
  rw [revR_iso]
  simp [revR]
def backL (l : List S54) : List S54 := l.reverse.map revR
theorem back_iso (l : List S54) (p : S41) (e : Bool) : isolatedB (backL l) p e = isolatedB l p e := by
  unfold isolatedB backL
  rw [List.any_map, List.any_reverse]
  rfl
theorem back_lets (l : List S54) (p o : S41) (n : Int) (e : Bool) : (backL l).any (letsB p e o n) = l.any (letsB p e o n) := by
  unfold backL
  rw [List.any_map, List.any_reverse]
  exact congrArg (fun f => l.any f) (funext fun x => revR_lets p e o n x)
theorem back_open (l : List S54) (p o : S41) (n : Int) (e : Bool) : openB (backL l) p o n e = openB l p o n e := by
  unfold openB
  rw [back_iso, back_lets]
theorem back_allowed (l : List S54) (p o : S41) (n : Int) : allowedB (backL l) n p o = allowedB l n p o := by
  unfold allowedB
  rw [back_open, back_open]
theorem back_fits (l : List S54) (hl : XL 248 X54 l) : XL 248 X54 (backL l) := by
  refine ⟨by simpa [backL] using hl.1, fun x hx => ?_⟩
  obtain ⟨y, hy, rfl⟩ := List.mem_map.1 hx
  have h := hl.2 y (List.mem_reverse.1 hy)
  refine ⟨h.1, h.2.1, h.2.2.1, h.2.2.2.1, ?_, ?_⟩
  · simpa [revR] using h.2.2.2.2.1
  · intro r hr
    exact h.2.2.2.2.2 r (List.mem_reverse.1 hr)
theorem none_fits : XL 248 X54 ([] : List S54) := ⟨by simp, by simp⟩
theorem wrap_pred {j : Nat} (h : j ≤ 4611686018427387904) : wrap64 ((j : Int) - 1) = (j : Int) - 1 := wrap_id (by omega) (by omega)
theorem order_end (l : List S54) (p o : S41) (n : Int) (hl : XL 248 X54 l) (hp : X41 p) (ho : X41 o) : Ev (fun k => orchestratorlaw57_NetpolicyOrder.j2 k l n false p.f0.f0 p.f0.f1 p.f0.f2 p.f0.f3 p.f0.f4 p.f0.f5 p.f0.f6 p.f0.f7 p.f0.f8 p.f0.f9 p.f0.f10 p.f0.f11 p.f0.f12 p.f1.f0 p.f1.f1 p.f1.f2 p.f1.f3 p.f1.f4 p.f1.f5 p.f1.f6 p.f1.f7 p.f1.f8 p.f1.f9 p.f2.f0 p.f2.f1 p.f2.f2 p.f2.f3 p.f2.f4 p.f2.f5 p.f2.f6 p.f2.f7 p.f2.f8 o.f0.f0 o.f0.f1 o.f0.f2 o.f0.f3 o.f0.f4 o.f0.f5 o.f0.f6 o.f0.f7 o.f0.f8 o.f0.f9 o.f0.f10 o.f0.f11 o.f0.f12 o.f1.f0 o.f1.f1 o.f1.f2 o.f1.f3 o.f1.f4 o.f1.f5 o.f1.f6 o.f1.f7 o.f1.f8 o.f1.f9 o.f2.f0 o.f2.f1 o.f2.f2 o.f2.f3 o.f2.f4 o.f2.f5 o.f2.f6 o.f2.f7 o.f2.f8) true := by
  refine Ev.step (fun k => rfl) ?_
  simp only [orchestratorlaw57_NetpolicyOrder.j2, Bool.false_eq_true, if_false]
  refine Ev.bind lives_ev ?_
  simp only [if_true]
  refine Ev.bind (allowed_ev [] p o n none_fits hp ho) ?_
  rw [show allowedB [] n p o = true by simp [allowedB, openB, isolatedB]]
  simp only [if_true]
  refine Ev.bind (allowed_ev l p p n hl hp hp) ?_
  rw [show allowedB l n p p = true by simp [allowedB]]
  simp only [if_true]
  refine Ev.bind (isolated_ev [] p true none_fits hp) ?_
  rw [show isolatedB [] p true = false by rfl]
  simp only [Bool.false_eq_true, if_false]
  exact Ev.now _
theorem order_fin (l : List S54) (p o : S41) (n : Int) (hl : XL 248 X54 l) (hp : X41 p) (ho : X41 o) : Ev (fun k => orchestratorlaw57_NetpolicyOrder.l0 k l n (backL l) (-1) p.f0.f0 p.f0.f1 p.f0.f2 p.f0.f3 p.f0.f4 p.f0.f5 p.f0.f6 p.f0.f7 p.f0.f8 p.f0.f9 p.f0.f10 p.f0.f11 p.f0.f12 p.f1.f0 p.f1.f1 p.f1.f2 p.f1.f3 p.f1.f4 p.f1.f5 p.f1.f6 p.f1.f7 p.f1.f8 p.f1.f9 p.f2.f0 p.f2.f1 p.f2.f2 p.f2.f3 p.f2.f4 p.f2.f5 p.f2.f6 p.f2.f7 p.f2.f8 o.f0.f0 o.f0.f1 o.f0.f2 o.f0.f3 o.f0.f4 o.f0.f5 o.f0.f6 o.f0.f7 o.f0.f8 o.f0.f9 o.f0.f10 o.f0.f11 o.f0.f12 o.f1.f0 o.f1.f1 o.f1.f2 o.f1.f3 o.f1.f4 o.f1.f5 o.f1.f6 o.f1.f7 o.f1.f8 o.f1.f9 o.f2.f0 o.f2.f1 o.f2.f2 o.f2.f3 o.f2.f4 o.f2.f5 o.f2.f6 o.f2.f7 o.f2.f8) true := by
  refine Ev.step (fun k => rfl) ?_
  simp only [orchestratorlaw57_NetpolicyOrder.l0, if_neg (show ¬ ((-1 : Int) ≥ 0) by decide)]
  refine Ev.bind (allowed_ev l p o n hl hp ho) ?_
  refine Ev.bind (allowed_ev (backL l) p o n (back_fits l hl) hp ho) ?_
  rw [back_allowed]
  simp only [bne_self_eq_false, Bool.false_eq_true, if_false]
  refine Ev.bind (isolated_ev l p true hl hp) ?_
  refine Ev.bind (isolated_ev (backL l) p true (back_fits l hl) hp) ?_
  rw [back_iso]
  simp only [bne_self_eq_false]
  exact order_end l p o n hl hp ho
theorem order_in (l : List S54) (p o : S41) (n : Int) (acc : List S54) (i : Nat) (hi : i < l.length) (ha : acc.length < 567489872400) (hx : XL 56 X58 l[i].f4)
    (h : Ev (fun k => orchestratorlaw57_NetpolicyOrder.l0 k l n (acc ++ [revR l[i]]) ((i : Int) - 1) p.f0.f0 p.f0.f1 p.f0.f2 p.f0.f3 p.f0.f4 p.f0.f5 p.f0.f6 p.f0.f7 p.f0.f8 p.f0.f9 p.f0.f10 p.f0.f11 p.f0.f12 p.f1.f0 p.f1.f1 p.f1.f2 p.f1.f3 p.f1.f4 p.f1.f5 p.f1.f6 p.f1.f7 p.f1.f8 p.f1.f9 p.f2.f0 p.f2.f1 p.f2.f2 p.f2.f3 p.f2.f4 p.f2.f5 p.f2.f6 p.f2.f7 p.f2.f8 o.f0.f0 o.f0.f1 o.f0.f2 o.f0.f3 o.f0.f4 o.f0.f5 o.f0.f6 o.f0.f7 o.f0.f8 o.f0.f9 o.f0.f10 o.f0.f11 o.f0.f12 o.f1.f0 o.f1.f1 o.f1.f2 o.f1.f3 o.f1.f4 o.f1.f5 o.f1.f6 o.f1.f7 o.f1.f8 o.f1.f9 o.f2.f0 o.f2.f1 o.f2.f2 o.f2.f3 o.f2.f4 o.f2.f5 o.f2.f6 o.f2.f7 o.f2.f8) true) (hn : l.length ≤ 140737488351232) :
    ∀ d, d ≤ l[i].f4.length → Ev (fun k => orchestratorlaw57_NetpolicyOrder.l1 k l n acc (i : Int) ((d : Int) - 1) p.f0.f0 p.f0.f1 p.f0.f2 p.f0.f3 p.f0.f4 p.f0.f5 p.f0.f6 p.f0.f7 p.f0.f8 p.f0.f9 p.f0.f10 p.f0.f11 p.f0.f12 p.f1.f0 p.f1.f1 p.f1.f2 p.f1.f3 p.f1.f4 p.f1.f5 p.f1.f6 p.f1.f7 p.f1.f8 p.f1.f9 p.f2.f0 p.f2.f1 p.f2.f2 p.f2.f3 p.f2.f4 p.f2.f5 p.f2.f6 p.f2.f7 p.f2.f8 o.f0.f0 o.f0.f1 o.f0.f2 o.f0.f3 o.f0.f4 o.f0.f5 o.f0.f6 o.f0.f7 o.f0.f8 o.f0.f9 o.f0.f10 o.f0.f11 o.f0.f12 o.f1.f0 o.f1.f1 o.f1.f2 o.f1.f3 o.f1.f4 o.f1.f5 o.f1.f6 o.f1.f7 o.f1.f8 o.f1.f9 o.f2.f0 o.f2.f1 o.f2.f2 o.f2.f3 o.f2.f4 o.f2.f5 o.f2.f6 o.f2.f7 o.f2.f8 l[i].f0.f0 l[i].f0.f1 l[i].f0.f2 l[i].f0.f3 l[i].f0.f4 l[i].f0.f5 l[i].f0.f6 l[i].f0.f7 l[i].f0.f8 l[i].f0.f9 l[i].f0.f10 l[i].f0.f11 l[i].f0.f12 l[i].f1 l[i].f2 l[i].f3 ((l[i].f4.drop d).reverse)) true := by
  intro d
  have hr : (l[i].f4.length : Int) ≤ 2513169434843 := by have := hx.1; omega
  induction d with
  | zero =>
    intro _
    refine Ev.step (fun k => rfl) ?_
    simp only [orchestratorlaw57_NetpolicyOrder.l1, if_neg (show ¬ (((0 : Nat) : Int) - 1 ≥ 0) by omega), if_pos ha, wrap_pred (show i ≤ 4611686018427387904 by omega), List.drop_zero]
    exact h
  | succ d ih =>
    intro hd
    have h2 := ih (by omega)
    refine Ev.step (fun k => rfl) ?_
    have e1 : (((d + 1 : Nat) : Int) - 1) = (d : Int) := by omega
    have e2 : (rd_T54 l (i : Int)) = l[i] := rd54 hi
    have e3 : (rd_T58 l[i].f4 (d : Int)) = l[i].f4[d] := rd58 (by omega)
    have e4 : (l[i].f4.drop (d + 1)).reverse ++ [l[i].f4[d]] = (l[i].f4.drop d).reverse := by
      rw [List.drop_eq_getElem_cons (show d < l[i].f4.length by omega), List.reverse_cons]
    have e5 : ((l[i].f4.drop (d + 1)).reverse).length < 2513169434916 := by rw [List.length_reverse, List.length_drop]; omega
    have e6 : (i : Int) < (l.length : Int) := by omega
    have e7 : (d : Int) < (l[i].f4.length : Int) := by omega
    rw [e1]
    simp only [orchestratorlaw57_NetpolicyOrder.l1, e2, e3, if_pos (show ((d : Int) ≥ 0) by omega), if_pos (show (0 : Int) ≤ (i : Int) by omega), if_pos e6, if_pos (show (0 : Int) ≤ (d : Int) by omega), if_pos e7, if_pos e5, wrap_pred (show d ≤ 4611686018427387904 by omega), e4]
    exact h2
theorem order_out (l : List S54) (p o : S41) (n : Int) (hl : XL 248 X54 l) (hp : X41 p) (ho : X41 o) : ∀ e, e ≤ l.length → Ev (fun k => orchestratorlaw57_NetpolicyOrder.l0 k l n (backL (l.drop e)) ((e : Int) - 1) p.f0.f0 p.f0.f1 p.f0.f2 p.f0.f3 p.f0.f4 p.f0.f5 p.f0.f6 p.f0.f7 p.f0.f8 p.f0.f9 p.f0.f10 p.f0.f11 p.f0.f12 p.f1.f0 p.f1.f1 p.f1.f2 p.f1.f3 p.f1.f4 p.f1.f5 p.f1.f6 p.f1.f7 p.f1.f8 p.f1.f9 p.f2.f0 p.f2.f1 p.f2.f2 p.f2.f3 p.f2.f4 p.f2.f5 p.f2.f6 p.f2.f7 p.f2.f8 o.f0.f0 o.f0.f1 o.f0.f2 o.f0.f3 o.f0.f4 o.f0.f5 o.f0.f6 o.f0.f7 o.f0.f8 o.f0.f9 o.f0.f10 o.f0.f11 o.f0.f12 o.f1.f0 o.f1.f1 o.f1.f2 o.f1.f3 o.f1.f4 o.f1.f5 o.f1.f6 o.f1.f7 o.f1.f8 o.f1.f9 o.f2.f0 o.f2.f1 o.f2.f2 o.f2.f3 o.f2.f4 o.f2.f5 o.f2.f6 o.f2.f7 o.f2.f8) true := by
  intro e
  have hn := len_of hl (by decide)
  induction e with
  | zero =>
    intro _
    exact order_fin l p o n hl hp ho
  | succ e ih =>
    intro he
    have h2 := ih (by omega)
    have hx := (hl.2 _ (List.getElem_mem (show e < l.length by omega))).2.2.2.2
    have hr : (l[e].f4.length : Int) ≤ 2513169434843 := by have := hx.1; omega
    have e1 : (((e + 1 : Nat) : Int) - 1) = (e : Int) := by omega
    have e2 : (rd_T54 l (e : Int)) = l[e] := rd54 (by omega)
    have e4 : backL (l.drop (e + 1)) ++ [revR l[e]] = backL (l.drop e) := by
      show (l.drop (e + 1)).reverse.map revR ++ [revR l[e]] = (l.drop e).reverse.map revR
      rw [List.drop_eq_getElem_cons (show e < l.length by omega), List.reverse_cons, List.map_append]
      rfl
    have h3 := order_in l p o n (backL (l.drop (e + 1))) e (by omega) (by have := hl.1; simp [backL]; omega) hx (by rw [e4]; exact h2) hn l[e].f4.length (Nat.le_refl _)
    rw [List.drop_length, List.reverse_nil] at h3
    refine Ev.step (fun k => rfl) ?_
    rw [e1]
    simp only [orchestratorlaw57_NetpolicyOrder.l0, e2, if_pos (show ((e : Int) ≥ 0) by omega), if_pos (show (0 : Int) ≤ (e : Int) by omega), if_pos (show (e : Int) < (l.length : Int) by omega), wrap_pred (show l[e].f4.length ≤ 4611686018427387904 by omega)]
    exact h3
theorem NetpolicyOrder : orchestratorlaw57_NetpolicyOrder.Pure := by
  intro l p o n hl hp ho _
  refine Ev.rounds (g := fun k => orchestratorlaw57_NetpolicyOrder.f k l p.f0.f0 p.f0.f1 p.f0.f2 p.f0.f3 p.f0.f4 p.f0.f5 p.f0.f6 p.f0.f7 p.f0.f8 p.f0.f9 p.f0.f10 p.f0.f11 p.f0.f12 p.f1.f0 p.f1.f1 p.f1.f2 p.f1.f3 p.f1.f4 p.f1.f5 p.f1.f6 p.f1.f7 p.f1.f8 p.f1.f9 p.f2.f0 p.f2.f1 p.f2.f2 p.f2.f3 p.f2.f4 p.f2.f5 p.f2.f6 p.f2.f7 p.f2.f8 o.f0.f0 o.f0.f1 o.f0.f2 o.f0.f3 o.f0.f4 o.f0.f5 o.f0.f6 o.f0.f7 o.f0.f8 o.f0.f9 o.f0.f10 o.f0.f11 o.f0.f12 o.f1.f0 o.f1.f1 o.f1.f2 o.f1.f3 o.f1.f4 o.f1.f5 o.f1.f6 o.f1.f7 o.f1.f8 o.f1.f9 o.f2.f0 o.f2.f1 o.f2.f2 o.f2.f3 o.f2.f4 o.f2.f5 o.f2.f6 o.f2.f7 o.f2.f8 n) ?_
  unfold orchestratorlaw57_NetpolicyOrder.f
  have hn := len_of hl (by decide)
  obtain ⟨b, hb⟩ := small_ex l hl
  refine Ev.bind hb (Ev.ite (fun h => ?_) (fun h => ?_))
  · have h3 := order_out l p o n hl hp ho l.length (Nat.le_refl _)
    rw [List.drop_length] at h3
    simp only [wrap_pred (show l.length ≤ 4611686018427387904 by omega)]
    exact h3
  · refine Ev.bind lives_ev ?_
    simp only [if_true]
    exact Ev.now _
end Go.Proofs.Ytkdikhonafbgdaa.Pure
