/- Part of a claim: see its row. Conditions: stated at each. -/
import Derived.Test.YtkdikhonafbgdaaZMQ6
import Derived.Test.YtkdikhonafbgdaaZMQX
import Derived.Test.YtkdikhonafbgdaaZMPLab
namespace Go.Proofs.Ytkdikhonafbgdaa.Pure
open Go.RowKit Go.Proofs.Ytkdikhonafbgdaa.Q Go.Proofs.Ytkdikhonafbgdaa.Opn Go.Proofs.YtkdikhonafbgdaaW.PrintWords Go.Proofs.YtkdikhonafbgdaaW.PrintLast Go.Proofs.YtkdikhonafbgdaaW.PrintMore Go.Proofs.Ytkdikhonafbgdaa.Pur
set_option linter.unusedVariables false
set_option linter.unusedSimpArgs false
theorem len_of {α : Type} {B : Nat} {X : α → Prop} {l : List α} (h : XL B X l) (hB : 1 ≤ B) : l.length ≤ 140737488351232 := Nat.le_trans (Nat.le_mul_of_pos_right _ hB) h.1
theorem rd54 {l : List S54} {j : Nat} (h : j < l.length) : rd_T54 l (j : Int) = l[j] := getD_nat h
theorem matches_fit (q : List S74) (p : S41) (hq : XL 48 X74 q) (hp : X41 p) : Ev (fun k => label_Matches.f k q p.f0.f9) (matchesS q p.f0.f9) := by
  have h1 := len_of hp.1.2.2.2.2.2.2.2.2.2.1 (by decide)
  have h2 := len_of hq (by decide)
  exact matches_ev q p.f0.f9 (by omega) (by omega) (fun x hx => by have := len_of (hq.2 x hx).2.2 (by decide); omega)
def isoB (p : S41) (e : Bool) (x : S54) : Bool := (if e = true then x.f3 else x.f2) && decide (x.f0.f1.toList = p.f0.f1.toList) && matchesS x.f1 p.f0.f9
theorem iso_ev (x : S54) (p : S41) (e : Bool) (hx : X54 x) (hp : X41 p) : Ev (fun k => netpolicy_isolates.f k x.f0.f0 x.f0.f1 x.f0.f2 x.f0.f3 x.f0.f4 x.f0.f5 x.f0.f6 x.f0.f7 x.f0.f8 x.f0.f9 x.f0.f10 x.f0.f11 x.f0.f12 x.f1 x.f2 x.f3 x.f4 p.f0.f0 p.f0.f1 p.f0.f2 p.f0.f3 p.f0.f4 p.f0.f5 p.f0.f6 p.f0.f7 p.f0.f8 p.f0.f9 p.f0.f10 p.f0.f11 p.f0.f12 p.f1.f0 p.f1.f1 p.f1.f2 p.f1.f3 p.f1.f4 p.f1.f5 p.f1.f6 p.f1.f7 p.f1.f8 p.f1.f9 p.f2.f0 p.f2.f1 p.f2.f2 p.f2.f3 p.f2.f4 p.f2.f5 p.f2.f6 p.f2.f7 p.f2.f8 e) (isoB p e x) := by
  unfold netpolicy_isolates.f isoB
  have hm := matches_fit x.f1 p hx.2.1 hp
  cases e with
  | true =>
    simp only [if_true]
    refine Ev.ite (fun h => Ev.ite (fun h2 => ?_) (fun h2 => ?_)) (fun h => ?_)
    · exact Ev.bind hm (Ev.eq (Ev.now _) (by simp [h, h2]))
    · exact Ev.eq (Ev.now _) (by simp [h2])
    · exact Ev.eq (Ev.now _) (by simp [h])
  | false =>
    simp only [Bool.false_eq_true, if_false]
    refine Ev.ite (fun h => Ev.ite (fun h2 => ?_) (fun h2 => ?_)) (fun h => ?_)
    · exact Ev.bind hm (Ev.eq (Ev.now _) (by simp [h, h2]))
    · exact Ev.eq (Ev.now _) (by simp [h2])
    · exact Ev.eq (Ev.now _) (by simp [h])
def isolatedB (l : List S54) (p : S41) (e : Bool) : Bool := l.any (isoB p e)
theorem isolated_ev (l : List S54) (p : S41) (e : Bool) (hl : XL 248 X54 l) (hp : X41 p) : Ev (fun k => netpolicy_Isolated.f k l p.f0.f0 p.f0.f1 p.f0.f2 p.f0.f3 p.f0.f4 p.f0.f5 p.f0.f6 p.f0.f7 p.f0.f8 p.f0.f9 p.f0.f10 p.f0.f11 p.f0.f12 p.f1.f0 p.f1.f1 p.f1.f2 p.f1.f3 p.f1.f4 p.f1.f5 p.f1.f6 p.f1.f7 p.f1.f8 p.f1.f9 p.f2.f0 p.f2.f1 p.f2.f2 p.f2.f3 p.f2.f4 p.f2.f5 p.f2.f6 p.f2.f7 p.f2.f8 e) (isolatedB l p e) := by
  unfold netpolicy_Isolated.f api_NetworkPolicy_18_c19.f api_NetworkPolicy_26_c19.f
  have hn := len_of hl (by decide)
  have h := indexFunc_ev z54 l (isoB p e) (fun k i => api_NetworkPolicy_26_c19.l0 k l (l.length : Int) i p.f0.f0 p.f0.f1 p.f0.f2 p.f0.f3 p.f0.f4 p.f0.f5 p.f0.f6 p.f0.f7 p.f0.f8 p.f0.f9 p.f0.f10 p.f0.f11 p.f0.f12 p.f1.f0 p.f1.f1 p.f1.f2 p.f1.f3 p.f1.f4 p.f1.f5 p.f1.f6 p.f1.f7 p.f1.f8 p.f1.f9 p.f2.f0 p.f2.f1 p.f2.f2 p.f2.f3 p.f2.f4 p.f2.f5 p.f2.f6 p.f2.f7 p.f2.f8 e) (fun k y => netpolicy_Isolated_1.f k y.f0.f0 y.f0.f1 y.f0.f2 y.f0.f3 y.f0.f4 y.f0.f5 y.f0.f6 y.f0.f7 y.f0.f8 y.f0.f9 y.f0.f10 y.f0.f11 y.f0.f12 y.f1 y.f2 y.f3 y.f4 p.f0.f0 p.f0.f1 p.f0.f2 p.f0.f3 p.f0.f4 p.f0.f5 p.f0.f6 p.f0.f7 p.f0.f8 p.f0.f9 p.f0.f10 p.f0.f11 p.f0.f12 p.f1.f0 p.f1.f1 p.f1.f2 p.f1.f3 p.f1.f4 p.f1.f5 p.f1.f6 p.f1.f7 p.f1.f8 p.f1.f9 p.f2.f0 p.f2.f1 p.f2.f2 p.f2.f3 p.f2.f4 p.f2.f5 p.f2.f6 p.f2.f7 p.f2.f8 e) (by omega) (fun k i => by simp only [api_NetworkPolicy_26_c19.l0]; rfl) (fun y hy => Ev.bind (iso_ev y p e (hl.2 y hy) hp) (Ev.now _))
  refine Ev.bind (a := isolatedB l p e) (Ev.bind h ?_) (Ev.now _)
  exact Ev.eq (Ev.now _) (idx_ge _ _ _ (by omega))
def peerB (p : S41) (r : S64) : Bool := (decide (r.f0.toList = ([] : List UInt8)) || decide (r.f0.toList = p.f0.f1.toList)) && matchesS r.f1 p.f0.f9
theorem peer_ev (r : S64) (p : S41) (hr : X64 r) (hp : X41 p) : Ev (fun k => netpolicy_admits_1.f k r.f0 r.f1 p.f0.f0 p.f0.f1 p.f0.f2 p.f0.f3 p.f0.f4 p.f0.f5 p.f0.f6 p.f0.f7 p.f0.f8 p.f0.f9 p.f0.f10 p.f0.f11 p.f0.f12 p.f1.f0 p.f1.f1 p.f1.f2 p.f1.f3 p.f1.f4 p.f1.f5 p.f1.f6 p.f1.f7 p.f1.f8 p.f1.f9 p.f2.f0 p.f2.f1 p.f2.f2 p.f2.f3 p.f2.f4 p.f2.f5 p.f2.f6 p.f2.f7 p.f2.f8) (peerB p r) := by
  unfold netpolicy_admits_1.f peerB
  have hm := matches_fit r.f1 p hr.2 hp
  refine Ev.ite (fun h => ?_) (fun h => Ev.ite (fun h2 => ?_) (fun h2 => ?_))
  · exact Ev.bind hm (Ev.eq (Ev.now _) (by simp [h]))
  · exact Ev.bind hm (Ev.eq (Ev.now _) (by simp [h2]))
  · exact Ev.eq (Ev.now _) (by simp [h, h2])
theorem peers_ev (l : List S64) (p : S41) (hl : XL 40 X64 l) (hp : X41 p) : Ev (fun k => api_Peer_41_c40.f k l p.f0.f0 p.f0.f1 p.f0.f2 p.f0.f3 p.f0.f4 p.f0.f5 p.f0.f6 p.f0.f7 p.f0.f8 p.f0.f9 p.f0.f10 p.f0.f11 p.f0.f12 p.f1.f0 p.f1.f1 p.f1.f2 p.f1.f3 p.f1.f4 p.f1.f5 p.f1.f6 p.f1.f7 p.f1.f8 p.f1.f9 p.f2.f0 p.f2.f1 p.f2.f2 p.f2.f3 p.f2.f4 p.f2.f5 p.f2.f6 p.f2.f7 p.f2.f8) (l.any (peerB p)) := by
  unfold api_Peer_41_c40.f api_Peer_47_c40.f
  have hn := len_of hl (by decide)
  have h := indexFunc_ev z64 l (peerB p) (fun k i => api_Peer_47_c40.l0 k l (l.length : Int) i p.f0.f0 p.f0.f1 p.f0.f2 p.f0.f3 p.f0.f4 p.f0.f5 p.f0.f6 p.f0.f7 p.f0.f8 p.f0.f9 p.f0.f10 p.f0.f11 p.f0.f12 p.f1.f0 p.f1.f1 p.f1.f2 p.f1.f3 p.f1.f4 p.f1.f5 p.f1.f6 p.f1.f7 p.f1.f8 p.f1.f9 p.f2.f0 p.f2.f1 p.f2.f2 p.f2.f3 p.f2.f4 p.f2.f5 p.f2.f6 p.f2.f7 p.f2.f8) (fun k y => netpolicy_admits_1.f k y.f0 y.f1 p.f0.f0 p.f0.f1 p.f0.f2 p.f0.f3 p.f0.f4 p.f0.f5 p.f0.f6 p.f0.f7 p.f0.f8 p.f0.f9 p.f0.f10 p.f0.f11 p.f0.f12 p.f1.f0 p.f1.f1 p.f1.f2 p.f1.f3 p.f1.f4 p.f1.f5 p.f1.f6 p.f1.f7 p.f1.f8 p.f1.f9 p.f2.f0 p.f2.f1 p.f2.f2 p.f2.f3 p.f2.f4 p.f2.f5 p.f2.f6 p.f2.f7 p.f2.f8) (by omega) (fun k i => by simp only [api_Peer_47_c40.l0]; rfl) (fun y hy => peer_ev y p (hl.2 y hy) hp)
  exact Ev.bind h (Ev.eq (Ev.now _) (idx_ge _ _ _ (by omega)))
def hasI (l : List Int) (n : Int) : Bool := l.any (fun x => decide (n = x))
theorem rdI {l : List Int} {j : Nat} (h : j < l.length) : rd l (j : Int) = l[j] := getD_nat h
theorem ports_ev (l : List Int) (n : Int) (hl : XL 8 I64 l) : Ev (fun k => slices_Contains_int_int.f k l n) (hasI l n) := by
  unfold slices_Contains_int_int.f slices_Index_int_int.f hasI
  have hn := len_of hl (by decide)
  refine Ev.bind (firstOf_ev 0 l (fun x => decide (n = x)) (fun i _ => i) (-1) (fun k i => slices_Index_int_int.l0 k l n (l.length : Int) i) (fun _ x => some (decide (n = x))) (by omega) (fun k j hj => ?_) (fun k => ?_) (fun y _ => Ev.now _)) ?_
  · have h1 : (j : Int) < (l.length : Int) := by omega
    simp only [slices_Index_int_int.l0, if_pos h1, if_pos (show (0 : Int) ≤ (j : Int) by omega), rdI hj]
    exact bite _ _
  · simp only [slices_Index_int_int.l0, Int.lt_irrefl, if_false]
  · rw [firstOf_idx]
    exact Ev.eq (Ev.now _) (idx_ge _ _ _ (by omega))
def admitsB (p : S41) (n : Int) (r : S58) : Bool := (decide (r.f1.length = 0) || r.f1.any (peerB p)) && (decide (r.f2.length = 0) || hasI r.f2 n)
theorem admits_ev (r : S58) (p : S41) (n : Int) (hr : X58 r) (hp : X41 p) : Ev (fun k => netpolicy_admits.f k r.f0 r.f1 r.f2 p.f0.f0 p.f0.f1 p.f0.f2 p.f0.f3 p.f0.f4 p.f0.f5 p.f0.f6 p.f0.f7 p.f0.f8 p.f0.f9 p.f0.f10 p.f0.f11 p.f0.f12 p.f1.f0 p.f1.f1 p.f1.f2 p.f1.f3 p.f1.f4 p.f1.f5 p.f1.f6 p.f1.f7 p.f1.f8 p.f1.f9 p.f2.f0 p.f2.f1 p.f2.f2 p.f2.f3 p.f2.f4 p.f2.f5 p.f2.f6 p.f2.f7 p.f2.f8 n) (admitsB p n r) := by
  unfold netpolicy_admits.f admitsB
  have hc := ports_ev r.f2 n hr.2.2
  refine Ev.ite (fun h => ?_) (fun h => ?_)
  · have h' : r.f1.length = 0 := by omega
    refine Ev.ite (fun h2 => ?_) (fun h2 => ?_)
    · have h2' : r.f2.length = 0 := by omega
      exact Ev.eq (Ev.now _) (by simp only [h', h2', decide_true, Bool.true_or, Bool.and_self])
    · have h2' : ¬ r.f2.length = 0 := by omega
      exact Ev.bind hc (Ev.eq (Ev.now _) (by simp only [h', h2', decide_true, decide_false, Bool.true_or, Bool.false_or, Bool.true_and]))
  · have h' : ¬ r.f1.length = 0 := by omega
    refine Ev.bind (peers_ev r.f1 p hr.2.1 hp) (Ev.ite (fun hb => Ev.ite (fun h2 => ?_) (fun h2 => ?_)) (fun hb => ?_))
    · have h2' : r.f2.length = 0 := by omega
      exact Ev.eq (Ev.now _) (by simp only [hb, h2', decide_true, Bool.true_or, Bool.or_true, Bool.and_self])
    · have h2' : ¬ r.f2.length = 0 := by omega
      exact Ev.bind hc (Ev.eq (Ev.now _) (by simp only [hb, h2', decide_false, Bool.false_or, Bool.or_true, Bool.true_and]))
    · have hb' : r.f1.any (peerB p) = false := Bool.eq_false_iff.2 hb
      exact Ev.eq (Ev.now _) (by simp only [h', hb', decide_false, Bool.or_self, Bool.false_and])
def ruleB (p : S41) (n : Int) (e : Bool) (r : S58) : Bool := r.f0 == e && admitsB p n r
theorem rule_ev (r : S58) (p : S41) (n : Int) (e : Bool) (hr : X58 r) (hp : X41 p) : Ev (fun k => netpolicy_open_1_1.f k r.f0 r.f1 r.f2 e p.f0.f0 p.f0.f1 p.f0.f2 p.f0.f3 p.f0.f4 p.f0.f5 p.f0.f6 p.f0.f7 p.f0.f8 p.f0.f9 p.f0.f10 p.f0.f11 p.f0.f12 p.f1.f0 p.f1.f1 p.f1.f2 p.f1.f3 p.f1.f4 p.f1.f5 p.f1.f6 p.f1.f7 p.f1.f8 p.f1.f9 p.f2.f0 p.f2.f1 p.f2.f2 p.f2.f3 p.f2.f4 p.f2.f5 p.f2.f6 p.f2.f7 p.f2.f8 n) (ruleB p n e r) := by
  unfold netpolicy_open_1_1.f ruleB
  refine Ev.ite (fun h => ?_) (fun h => ?_)
  · exact Ev.bind (admits_ev r p n hr hp) (Ev.eq (Ev.now _) (by simp only [h, Bool.true_and]))
  · have h' : (r.f0 == e) = false := Bool.eq_false_iff.2 h
    exact Ev.eq (Ev.now _) (by simp only [h', Bool.false_and])
theorem rules_ev (l : List S58) (p : S41) (n : Int) (e : Bool) (hl : XL 56 X58 l) (hp : X41 p) : Ev (fun k => api_PolicyRule_31_c32.f k l e p.f0.f0 p.f0.f1 p.f0.f2 p.f0.f3 p.f0.f4 p.f0.f5 p.f0.f6 p.f0.f7 p.f0.f8 p.f0.f9 p.f0.f10 p.f0.f11 p.f0.f12 p.f1.f0 p.f1.f1 p.f1.f2 p.f1.f3 p.f1.f4 p.f1.f5 p.f1.f6 p.f1.f7 p.f1.f8 p.f1.f9 p.f2.f0 p.f2.f1 p.f2.f2 p.f2.f3 p.f2.f4 p.f2.f5 p.f2.f6 p.f2.f7 p.f2.f8 n) (l.any (ruleB p n e)) := by
  unfold api_PolicyRule_31_c32.f api_PolicyRule_39_c32.f
  have hn := len_of hl (by decide)
  have h := indexFunc_ev z58 l (ruleB p n e) (fun k i => api_PolicyRule_39_c32.l0 k l (l.length : Int) i e p.f0.f0 p.f0.f1 p.f0.f2 p.f0.f3 p.f0.f4 p.f0.f5 p.f0.f6 p.f0.f7 p.f0.f8 p.f0.f9 p.f0.f10 p.f0.f11 p.f0.f12 p.f1.f0 p.f1.f1 p.f1.f2 p.f1.f3 p.f1.f4 p.f1.f5 p.f1.f6 p.f1.f7 p.f1.f8 p.f1.f9 p.f2.f0 p.f2.f1 p.f2.f2 p.f2.f3 p.f2.f4 p.f2.f5 p.f2.f6 p.f2.f7 p.f2.f8 n) (fun k y => netpolicy_open_1_1.f k y.f0 y.f1 y.f2 e p.f0.f0 p.f0.f1 p.f0.f2 p.f0.f3 p.f0.f4 p.f0.f5 p.f0.f6 p.f0.f7 p.f0.f8 p.f0.f9 p.f0.f10 p.f0.f11 p.f0.f12 p.f1.f0 p.f1.f1 p.f1.f2 p.f1.f3 p.f1.f4 p.f1.f5 p.f1.f6 p.f1.f7 p.f1.f8 p.f1.f9 p.f2.f0 p.f2.f1 p.f2.f2 p.f2.f3 p.f2.f4 p.f2.f5 p.f2.f6 p.f2.f7 p.f2.f8 n) (by omega) (fun k i => by simp only [api_PolicyRule_39_c32.l0]; rfl) (fun y hy => rule_ev y p n e (hl.2 y hy) hp)
  exact Ev.bind h (Ev.eq (Ev.now _) (idx_ge _ _ _ (by omega)))
def letsB (p : S41) (e : Bool) (o : S41) (n : Int) (x : S54) : Bool := isoB p e x && x.f4.any (ruleB o n e)
theorem lets_ev (x : S54) (p : S41) (e : Bool) (o : S41) (n : Int) (hx : X54 x) (hp : X41 p) (ho : X41 o) : Ev (fun k => netpolicy_open_1.f k x.f0.f0 x.f0.f1 x.f0.f2 x.f0.f3 x.f0.f4 x.f0.f5 x.f0.f6 x.f0.f7 x.f0.f8 x.f0.f9 x.f0.f10 x.f0.f11 x.f0.f12 x.f1 x.f2 x.f3 x.f4 p.f0.f0 p.f0.f1 p.f0.f2 p.f0.f3 p.f0.f4 p.f0.f5 p.f0.f6 p.f0.f7 p.f0.f8 p.f0.f9 p.f0.f10 p.f0.f11 p.f0.f12 p.f1.f0 p.f1.f1 p.f1.f2 p.f1.f3 p.f1.f4 p.f1.f5 p.f1.f6 p.f1.f7 p.f1.f8 p.f1.f9 p.f2.f0 p.f2.f1 p.f2.f2 p.f2.f3 p.f2.f4 p.f2.f5 p.f2.f6 p.f2.f7 p.f2.f8 e o.f0.f0 o.f0.f1 o.f0.f2 o.f0.f3 o.f0.f4 o.f0.f5 o.f0.f6 o.f0.f7 o.f0.f8 o.f0.f9 o.f0.f10 o.f0.f11 o.f0.f12 o.f1.f0 o.f1.f1 o.f1.f2 o.f1.f3 o.f1.f4 o.f1.f5 o.f1.f6 o.f1.f7 o.f1.f8 o.f1.f9 o.f2.f0 o.f2.f1 o.f2.f2 o.f2.f3 o.f2.f4 o.f2.f5 o.f2.f6 o.f2.f7 o.f2.f8 n) (letsB p e o n x) := by
  unfold netpolicy_open_1.f letsB
  refine Ev.bind (iso_ev x p e hx hp) (Ev.ite (fun h => ?_) (fun h => ?_))
  · exact Ev.bind (rules_ev x.f4 o n e hx.2.2.2.2 ho) (Ev.eq (Ev.now _) (by simp only [h, Bool.true_and]))
  · have h' : isoB p e x = false := Bool.eq_false_iff.2 h
    exact Ev.eq (Ev.now _) (by simp only [h', Bool.false_and])
def openB (l : List S54) (p o : S41) (n : Int) (e : Bool) : Bool := !isolatedB l p e || l.any (letsB p e o n)
theorem open_ev (l : List S54) (p o : S41) (n : Int) (e : Bool) (hl : XL 248 X54 l) (hp : X41 p) (ho : X41 o) : Ev (fun k => netpolicy_open.f k l p.f0.f0 p.f0.f1 p.f0.f2 p.f0.f3 p.f0.f4 p.f0.f5 p.f0.f6 p.f0.f7 p.f0.f8 p.f0.f9 p.f0.f10 p.f0.f11 p.f0.f12 p.f1.f0 p.f1.f1 p.f1.f2 p.f1.f3 p.f1.f4 p.f1.f5 p.f1.f6 p.f1.f7 p.f1.f8 p.f1.f9 p.f2.f0 p.f2.f1 p.f2.f2 p.f2.f3 p.f2.f4 p.f2.f5 p.f2.f6 p.f2.f7 p.f2.f8 o.f0.f0 o.f0.f1 o.f0.f2 o.f0.f3 o.f0.f4 o.f0.f5 o.f0.f6 o.f0.f7 o.f0.f8 o.f0.f9 o.f0.f10 o.f0.f11 o.f0.f12 o.f1.f0 o.f1.f1 o.f1.f2 o.f1.f3 o.f1.f4 o.f1.f5 o.f1.f6 o.f1.f7 o.f1.f8 o.f1.f9 o.f2.f0 o.f2.f1 o.f2.f2 o.f2.f3 o.f2.f4 o.f2.f5 o.f2.f6 o.f2.f7 o.f2.f8 n e) (openB l p o n e) := by
  unfold netpolicy_open.f openB
  refine Ev.bind (isolated_ev l p e hl hp) (Ev.ite (fun h => ?_) (fun h => ?_))
  · unfold api_NetworkPolicy_18_c30.f api_NetworkPolicy_26_c30.f
    have hn := len_of hl (by decide)
    have h1 := indexFunc_ev z54 l (letsB p e o n) (fun k i => api_NetworkPolicy_26_c30.l0 k l (l.length : Int) i p.f0.f0 p.f0.f1 p.f0.f2 p.f0.f3 p.f0.f4 p.f0.f5 p.f0.f6 p.f0.f7 p.f0.f8 p.f0.f9 p.f0.f10 p.f0.f11 p.f0.f12 p.f1.f0 p.f1.f1 p.f1.f2 p.f1.f3 p.f1.f4 p.f1.f5 p.f1.f6 p.f1.f7 p.f1.f8 p.f1.f9 p.f2.f0 p.f2.f1 p.f2.f2 p.f2.f3 p.f2.f4 p.f2.f5 p.f2.f6 p.f2.f7 p.f2.f8 e o.f0.f0 o.f0.f1 o.f0.f2 o.f0.f3 o.f0.f4 o.f0.f5 o.f0.f6 o.f0.f7 o.f0.f8 o.f0.f9 o.f0.f10 o.f0.f11 o.f0.f12 o.f1.f0 o.f1.f1 o.f1.f2 o.f1.f3 o.f1.f4 o.f1.f5 o.f1.f6 o.f1.f7 o.f1.f8 o.f1.f9 o.f2.f0 o.f2.f1 o.f2.f2 o.f2.f3 o.f2.f4 o.f2.f5 o.f2.f6 o.f2.f7 o.f2.f8 n) (fun k y => netpolicy_open_1.f k y.f0.f0 y.f0.f1 y.f0.f2 y.f0.f3 y.f0.f4 y.f0.f5 y.f0.f6 y.f0.f7 y.f0.f8 y.f0.f9 y.f0.f10 y.f0.f11 y.f0.f12 y.f1 y.f2 y.f3 y.f4 p.f0.f0 p.f0.f1 p.f0.f2 p.f0.f3 p.f0.f4 p.f0.f5 p.f0.f6 p.f0.f7 p.f0.f8 p.f0.f9 p.f0.f10 p.f0.f11 p.f0.f12 p.f1.f0 p.f1.f1 p.f1.f2 p.f1.f3 p.f1.f4 p.f1.f5 p.f1.f6 p.f1.f7 p.f1.f8 p.f1.f9 p.f2.f0 p.f2.f1 p.f2.f2 p.f2.f3 p.f2.f4 p.f2.f5 p.f2.f6 p.f2.f7 p.f2.f8 e o.f0.f0 o.f0.f1 o.f0.f2 o.f0.f3 o.f0.f4 o.f0.f5 o.f0.f6 o.f0.f7 o.f0.f8 o.f0.f9 o.f0.f10 o.f0.f11 o.f0.f12 o.f1.f0 o.f1.f1 o.f1.f2 o.f1.f3 o.f1.f4 o.f1.f5 o.f1.f6 o.f1.f7 o.f1.f8 o.f1.f9 o.f2.f0 o.f2.f1 o.f2.f2 o.f2.f3 o.f2.f4 o.f2.f5 o.f2.f6 o.f2.f7 o.f2.f8 n) (by omega) (fun k i => by simp only [api_NetworkPolicy_26_c30.l0]; rfl) (fun y hy => lets_ev y p e o n (hl.2 y hy) hp ho)
    refine Ev.bind (a := l.any (letsB p e o n)) (Ev.bind h1 (Ev.eq (Ev.now _) (idx_ge _ _ _ (by omega)))) (Ev.eq (Ev.now _) (by simp only [h, Bool.not_true, Bool.false_or]))
  · have h' : isolatedB l p e = false := Bool.eq_false_iff.2 h
    exact Ev.eq (Ev.now _) (by simp only [h', Bool.not_false, Bool.true_or])
def keyB (p : S41) : ByteArray := ((((p.f0.f0 ++ (⟨#[47]⟩ : ByteArray)) ++ p.f0.f1) ++ (⟨#[47]⟩ : ByteArray)) ++ p.f0.f2)
theorem key_some (p : S41) (hp : X41 p) : meta_KeyOf.f p.f0.f0 p.f0.f1 p.f0.f2 p.f0.f3 p.f0.f4 p.f0.f5 p.f0.f6 p.f0.f7 p.f0.f8 p.f0.f9 p.f0.f10 p.f0.f11 p.f0.f12 = some (keyB p) := by
  have h0 : p.f0.f0.size ≤ 140737488351232 := hp.1.1
  have h1 : p.f0.f1.size ≤ 140737488351232 := hp.1.2.1
  have h2 : p.f0.f2.size ≤ 140737488351232 := hp.1.2.2.1
  unfold meta_KeyOf.f meta_Key.f
  rw [if_pos (by omega), if_pos (by omega), if_pos (by omega), if_pos (by omega)]
  rfl
def allowedB (l : List S54) (n : Int) (p o : S41) : Bool := decide ((keyB p).toList = (keyB o).toList) || (openB l p o n true && openB l o p n false)
theorem allowed_ev (l : List S54) (p o : S41) (n : Int) (hl : XL 248 X54 l) (hp : X41 p) (ho : X41 o) : Ev (fun k => netpolicy_Allowed.f k l p.f0.f0 p.f0.f1 p.f0.f2 p.f0.f3 p.f0.f4 p.f0.f5 p.f0.f6 p.f0.f7 p.f0.f8 p.f0.f9 p.f0.f10 p.f0.f11 p.f0.f12 p.f1.f0 p.f1.f1 p.f1.f2 p.f1.f3 p.f1.f4 p.f1.f5 p.f1.f6 p.f1.f7 p.f1.f8 p.f1.f9 p.f2.f0 p.f2.f1 p.f2.f2 p.f2.f3 p.f2.f4 p.f2.f5 p.f2.f6 p.f2.f7 p.f2.f8 o.f0.f0 o.f0.f1 o.f0.f2 o.f0.f3 o.f0.f4 o.f0.f5 o.f0.f6 o.f0.f7 o.f0.f8 o.f0.f9 o.f0.f10 o.f0.f11 o.f0.f12 o.f1.f0 o.f1.f1 o.f1.f2 o.f1.f3 o.f1.f4 o.f1.f5 o.f1.f6 o.f1.f7 o.f1.f8 o.f1.f9 o.f2.f0 o.f2.f1 o.f2.f2 o.f2.f3 o.f2.f4 o.f2.f5 o.f2.f6 o.f2.f7 o.f2.f8 n) (allowedB l n p o) := by
  unfold netpolicy_Allowed.f allowedB
  simp only [key_some p hp, key_some o ho, Option.bind_some]
  refine Ev.ite (fun h => ?_) (fun h => ?_)
  · exact Ev.eq (Ev.now _) (by simp only [h, decide_true, Bool.true_or])
  · refine Ev.bind (open_ev l p o n true hl hp ho) (Ev.ite (fun h2 => ?_) (fun h2 => ?_))
    · exact Ev.bind (open_ev l o p n false hl ho hp) (Ev.eq (Ev.now _) (by simp only [h, h2, decide_false, Bool.false_or, Bool.true_and]))
    · have h' : openB l p o n true = false := Bool.eq_false_iff.2 h2
      exact Ev.eq (Ev.now _) (by simp only [h, h', decide_false, Bool.false_or, Bool.false_and])
end Go.Proofs.Ytkdikhonafbgdaa.Pure
