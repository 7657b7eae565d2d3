/- Part of a claim: see its row. Conditions: stated at each. -/
import Derived.Test.YtkdikhonafbgdaaZAQ14
import Derived.Test.YtkdikhonafbgdaaZAPNet
namespace Go.Proofs.Ytkdikhonafbgdaa.Pure
open Go.RowKit Go.Proofs.Ytkdikhonafbgdaa.Q Go.Proofs.Ytkdikhonafbgdaa.Opn Go.Proofs.YtkdikhonafbgdaaW.PrintWords Go.Proofs.YtkdikhonafbgdaaW.PrintLast Go.Proofs.YtkdikhonafbgdaaW.PrintMore Go.Proofs.Ytkdikhonafbgdaa.Pur
set_option linter.unusedVariables false
set_option linter.unusedSimpArgs false
theorem rget_ev (l : List S72) (a : ByteArray) (hl : l.length ≤ 4611686018427387904) : Ev (fun k => orchestratorref03_Get.f k l a) (getS l a) := by
  unfold orchestratorref03_Get.f getS
  refine firstOf_ev z72 l (fun x : S72 => decide (x.f0.toList = a.toList)) (fun _ x => (x.f1, true)) _ (fun k i => orchestratorref03_Get.l0 k l a i) (fun _ x => some (decide (x.f0.toList = a.toList))) hl (fun k j hj => ?_) (fun k => ?_) (fun y _ => Ev.now _)
  · have h1 : (j : Int) < (l.length : Int) := by omega
    simp only [orchestratorref03_Get.l0, if_pos h1, if_pos (show (0 : Int) ≤ (j : Int) by omega), rd72 hj]
    exact bite _ _
  · simp only [orchestratorref03_Get.l0, Int.lt_irrefl, if_false]
theorem among_ev (l : List ByteArray) (a : ByteArray) (hl : l.length ≤ 4611686018427387904) : Ev (fun k => orchestratorref03_among.f k l a) (hasS l a) := by
  unfold orchestratorref03_among.f hasS
  rw [show (fun x : ByteArray => decide (a.toList = x.toList)) = (fun x : ByteArray => decide (x.toList = a.toList)) from funext fun x => decide_eq_decide.2 eq_comm, ← firstOf_any _ l 0]
  refine firstOf_ev ByteArray.empty l (fun x => decide (x.toList = a.toList)) (fun _ _ => true) false (fun k i => orchestratorref03_among.l0 k l a i) (fun _ x => some (decide (x.toList = a.toList))) hl (fun k j hj => ?_) (fun k => ?_) (fun y _ => Ev.now _)
  · have h1 : (j : Int) < (l.length : Int) := by omega
    simp only [orchestratorref03_among.l0, if_pos h1, if_pos (show (0 : Int) ≤ (j : Int) by omega), rdS hj]
    exact bite _ _
  · simp only [orchestratorref03_among.l0, Int.lt_irrefl, if_false]
theorem rholds_ev (x : S74) (l : List S72) (hl : l.length ≤ 4611686018427387904) (hx : x.f2.length ≤ 4611686018427387904) : Ev (fun k => orchestratorref03_holds.f k x.f0 x.f1 x.f2 l) (holdsS x l) := by
  unfold orchestratorref03_holds.f holdsS
  refine Ev.bind (rget_ev l x.f0 hl) ?_
  cases getS l x.f0 with
  | mk v b =>
  refine Ev.ite (fun h => ?_) (fun h => Ev.ite (fun h2 => ?_) (fun h2 => Ev.ite (fun h3 => ?_) (fun h3 => Ev.ite (fun h4 => ?_) (fun h4 => ?_))))
  · simp only [if_pos h]
    refine Ev.ite (fun hb => ?_) (fun hb => ?_)
    · exact Ev.bind (among_ev x.f2 v hx) (Ev.eq (Ev.now _) (by have hb : b = true := hb; subst hb; rfl))
    · exact Ev.eq (Ev.now _) (by have hb : b = false := (by simpa using hb); subst hb; rfl)
  · simp only [if_neg h, if_pos h2]
    refine Ev.ite (fun hb => ?_) (fun hb => ?_)
    · exact Ev.bind (among_ev x.f2 v hx) (Ev.eq (Ev.now _) (by have hb : b = true := hb; subst hb; rfl))
    · exact Ev.eq (Ev.now _) (by have hb : b = false := (by simpa using hb); subst hb; rfl)
  · simp only [if_neg h, if_neg h2, if_pos h3]
    have h4 : ¬ x.f1 = 4 := by omega
    refine Ev.ite (fun hb => ?_) (fun hb => ?_)
    · exact Ev.eq (Ev.now _) (by have hb : b = true := hb; subst hb; rfl)
    · exact Ev.neg h4 (Ev.eq (Ev.now _) (by have hb : b = false := (by simpa using hb); subst hb; rfl))
  · simp only [if_neg h, if_neg h2, if_neg h3, if_pos h4]
    exact Ev.now _
  · simp only [if_neg h, if_neg h2, if_neg h3, if_neg h4]
    exact Ev.now _
theorem rmatches_ev (q : List S74) (l : List S72) (hl : l.length ≤ 4611686018427387904) (hq : q.length ≤ 4611686018427387904) (hx : ∀ x ∈ q, x.f2.length ≤ 4611686018427387904) : Ev (fun k => orchestratorref03_Matches.f k q l) (matchesS q l) := by
  unfold orchestratorref03_Matches.f matchesS
  rw [← firstOf_all (fun x => holdsS x l) q 0]
  refine firstOf_ev z74 q _ (fun _ _ => false) true (fun k i => orchestratorref03_Matches.l0 k q l i) (fun k x => (orchestratorref03_holds.f k x.f0 x.f1 x.f2 l).bind fun t => some (!t)) hq (fun k j hj => ?_) (fun k => ?_) (fun y hy => Ev.bind (rholds_ev y l hl (hx y hy)) (Ev.now _))
  · have h1 : (j : Int) < (q.length : Int) := by omega
    simp only [orchestratorref03_Matches.l0, if_pos h1, if_pos (show (0 : Int) ≤ (j : Int) by omega), rd74 hj]
    cases orchestratorref03_holds.f k q[j].f0 q[j].f1 q[j].f2 l with
    | none => rfl
    | some t => cases t <;> simp
  · simp only [orchestratorref03_Matches.l0, Int.lt_irrefl, if_false]
theorem rmatches_fit (q : List S74) (p : S41) (hq : XL 48 X74 q) (hp : X41 p) : Ev (fun k => orchestratorref03_Matches.f k q p.f0.f9) (matchesS q p.f0.f9) := by
  have h1 := len_of hp.1.2.2.2.2.2.2.2.2.2.1 (by decide)
  have h2 := len_of hq (by decide)
  exact rmatches_ev q p.f0.f9 (by omega) (by omega) (fun x hx => by have := len_of (hq.2 x hx).2.2 (by decide); omega)
theorem riso_ev (x : S54) (p : S41) (e : Bool) (hx : X54 x) (hp : X41 p) : Ev (fun k => orchestratorref57_isolates.f k x.f0.f0 x.f0.f1 x.f0.f2 x.f0.f3 x.f0.f4 x.f0.f5 x.f0.f6 x.f0.f7 x.f0.f8 x.f0.f9 x.f0.f10 x.f0.f11 x.f0.f12 x.f1 x.f2 x.f3 x.f4 p.f0.f0 p.f0.f1 p.f0.f2 p.f0.f3 p.f0.f4 p.f0.f5 p.f0.f6 p.f0.f7 p.f0.f8 p.f0.f9 p.f0.f10 p.f0.f11 p.f0.f12 p.f1.f0 p.f1.f1 p.f1.f2 p.f1.f3 p.f1.f4 p.f1.f5 p.f1.f6 p.f1.f7 p.f1.f8 p.f1.f9 p.f2.f0 p.f2.f1 p.f2.f2 p.f2.f3 p.f2.f4 p.f2.f5 p.f2.f6 p.f2.f7 p.f2.f8 e) (isoB p e x) := by
  unfold orchestratorref57_isolates.f isoB
  have hm := rmatches_fit x.f1 p hx.2.1 hp
  refine Ev.ite (fun h => ?_) (fun h => ?_)
  · refine Ev.bind hm (Ev.step (fun k => rfl) ?_)
    simp only [orchestratorref57_isolates.j0]
    cases matchesS x.f1 p.f0.f9 with
    | false => exact Ev.eq (Ev.now _) (by simp)
    | true => cases e <;> exact Ev.eq (Ev.now _) (by simp [h])
  · refine Ev.step (fun k => rfl) ?_
    simp only [orchestratorref57_isolates.j0, if_true]
    exact Ev.eq (Ev.now _) (by simp [h])
theorem risolated_ev (l : List S54) (p : S41) (e : Bool) (hl : XL 248 X54 l) (hp : X41 p) : Ev (fun k => orchestratorref57_Isolated.f k l p.f0.f0 p.f0.f1 p.f0.f2 p.f0.f3 p.f0.f4 p.f0.f5 p.f0.f6 p.f0.f7 p.f0.f8 p.f0.f9 p.f0.f10 p.f0.f11 p.f0.f12 p.f1.f0 p.f1.f1 p.f1.f2 p.f1.f3 p.f1.f4 p.f1.f5 p.f1.f6 p.f1.f7 p.f1.f8 p.f1.f9 p.f2.f0 p.f2.f1 p.f2.f2 p.f2.f3 p.f2.f4 p.f2.f5 p.f2.f6 p.f2.f7 p.f2.f8 e) (isolatedB l p e) := by
  unfold orchestratorref57_Isolated.f isolatedB
  have hn := len_of hl (by decide)
  rw [← firstOf_any _ l 0]
  refine firstOf_ev z54 l (isoB p e) (fun _ _ => true) false (fun k i => orchestratorref57_Isolated.l0 k l e i p.f0.f0 p.f0.f1 p.f0.f2 p.f0.f3 p.f0.f4 p.f0.f5 p.f0.f6 p.f0.f7 p.f0.f8 p.f0.f9 p.f0.f10 p.f0.f11 p.f0.f12 p.f1.f0 p.f1.f1 p.f1.f2 p.f1.f3 p.f1.f4 p.f1.f5 p.f1.f6 p.f1.f7 p.f1.f8 p.f1.f9 p.f2.f0 p.f2.f1 p.f2.f2 p.f2.f3 p.f2.f4 p.f2.f5 p.f2.f6 p.f2.f7 p.f2.f8) (fun k x => orchestratorref57_isolates.f k x.f0.f0 x.f0.f1 x.f0.f2 x.f0.f3 x.f0.f4 x.f0.f5 x.f0.f6 x.f0.f7 x.f0.f8 x.f0.f9 x.f0.f10 x.f0.f11 x.f0.f12 x.f1 x.f2 x.f3 x.f4 p.f0.f0 p.f0.f1 p.f0.f2 p.f0.f3 p.f0.f4 p.f0.f5 p.f0.f6 p.f0.f7 p.f0.f8 p.f0.f9 p.f0.f10 p.f0.f11 p.f0.f12 p.f1.f0 p.f1.f1 p.f1.f2 p.f1.f3 p.f1.f4 p.f1.f5 p.f1.f6 p.f1.f7 p.f1.f8 p.f1.f9 p.f2.f0 p.f2.f1 p.f2.f2 p.f2.f3 p.f2.f4 p.f2.f5 p.f2.f6 p.f2.f7 p.f2.f8 e) (by omega) (fun k j hj => ?_) (fun k => ?_) (fun y hy => riso_ev y p e (hl.2 y hy) hp)
  · have h1 : (j : Int) < (l.length : Int) := by omega
    simp only [orchestratorref57_Isolated.l0, if_pos h1, if_pos (show (0 : Int) ≤ (j : Int) by omega), rd54 hj]
  · simp only [orchestratorref57_Isolated.l0, Int.lt_irrefl, if_false]
theorem rpeer_ev (l : List S64) (p : S41) (hl : XL 40 X64 l) (hp : X41 p) : Ev (fun k => orchestratorref57_peer.f k l p.f0.f0 p.f0.f1 p.f0.f2 p.f0.f3 p.f0.f4 p.f0.f5 p.f0.f6 p.f0.f7 p.f0.f8 p.f0.f9 p.f0.f10 p.f0.f11 p.f0.f12 p.f1.f0 p.f1.f1 p.f1.f2 p.f1.f3 p.f1.f4 p.f1.f5 p.f1.f6 p.f1.f7 p.f1.f8 p.f1.f9 p.f2.f0 p.f2.f1 p.f2.f2 p.f2.f3 p.f2.f4 p.f2.f5 p.f2.f6 p.f2.f7 p.f2.f8) (decide (l.length = 0) || l.any (peerB p)) := by
  unfold orchestratorref57_peer.f
  have hn := len_of hl (by decide)
  have h := firstOf_ev z64 l (peerB p) (fun _ _ => true) ((l.length : Int) == 0) (fun k i => orchestratorref57_peer.l0 k l i p.f0.f0 p.f0.f1 p.f0.f2 p.f0.f3 p.f0.f4 p.f0.f5 p.f0.f6 p.f0.f7 p.f0.f8 p.f0.f9 p.f0.f10 p.f0.f11 p.f0.f12 p.f1.f0 p.f1.f1 p.f1.f2 p.f1.f3 p.f1.f4 p.f1.f5 p.f1.f6 p.f1.f7 p.f1.f8 p.f1.f9 p.f2.f0 p.f2.f1 p.f2.f2 p.f2.f3 p.f2.f4 p.f2.f5 p.f2.f6 p.f2.f7 p.f2.f8) (fun k x => if x.f0.toList = ([] : List UInt8) then orchestratorref03_Matches.f k x.f1 p.f0.f9 else if x.f0.toList = p.f0.f1.toList then orchestratorref03_Matches.f k x.f1 p.f0.f9 else some false) (by omega) (fun k j hj => ?_) (fun k => ?_) (fun y hy => ?_)
  · refine Ev.eq h ?_
    rw [show firstOf (peerB p) (fun _ _ => true) ((l.length : Int) == 0) l 0 = (l.any (peerB p) || ((l.length : Int) == 0)) from ?_]
    · rw [Bool.or_comm, show ((l.length : Int) == 0) = decide (l.length = 0) from by rw [Bool.eq_iff_iff]; simp]
    · have gen : ∀ (d : Bool) (q : List S64) (i : Int), firstOf (peerB p) (fun _ _ => true) d q i = (q.any (peerB p) || d) := by
        intro d q
        induction q with
        | nil => intro i; rfl
        | cons x r ih => intro i; cases hx : peerB p x <;> simp [firstOf, hx, ih]
      exact gen _ _ _
  · have h1 : (j : Int) < (l.length : Int) := by omega
    simp only [orchestratorref57_peer.l0, if_pos h1, if_pos (show (0 : Int) ≤ (j : Int) by omega), show rd_T64 l (j : Int) = l[j] from getD_nat hj]
    by_cases ha : (l[j]).f0.toList = ([] : List UInt8)
    · simp only [if_pos ha]
    · simp only [if_neg ha]
      by_cases hb : (l[j]).f0.toList = p.f0.f1.toList
      · simp only [if_pos hb]
      · simp only [if_neg hb, Option.bind_some, Bool.false_eq_true, if_false]
  · simp only [orchestratorref57_peer.l0, Int.lt_irrefl, if_false]
  · have hm := rmatches_fit y.f1 p (hl.2 y hy).2 hp
    unfold peerB
    refine Ev.ite (fun h => ?_) (fun h => Ev.ite (fun h2 => ?_) (fun h2 => ?_))
    · exact Ev.eq hm (by simp [h])
    · exact Ev.eq hm (by simp [h2])
    · exact Ev.eq (Ev.now _) (by simp [h, h2])
theorem rport_ev (l : List Int) (n : Int) (hl : XL 8 I64 l) : Ev (fun k => orchestratorref57_port.f k l n) (decide (l.length = 0) || hasI l n) := by
  unfold orchestratorref57_port.f hasI
  have hn := len_of hl (by decide)
  have h := firstOf_ev 0 l (fun x => decide (x = n)) (fun _ _ => true) ((l.length : Int) == 0) (fun k i => orchestratorref57_port.l0 k l n i) (fun _ x => some (decide (x = n))) (by omega) (fun k j hj => ?_) (fun k => ?_) (fun y _ => Ev.now _)
  · refine Ev.eq h ?_
    have gen : ∀ (d : Bool) (q : List Int) (i : Int), firstOf (fun x => decide (x = n)) (fun _ _ => true) d q i = (q.any (fun x => decide (n = x)) || d) := by
      intro d q
      induction q with
      | nil => intro i; rfl
      | cons x r ih =>
        intro i
        by_cases hx : x = n
        · simp [firstOf, hx]
        · simp [firstOf, hx, ih, show ¬ n = x from fun e => hx e.symm]
    rw [gen, Bool.or_comm, show ((l.length : Int) == 0) = decide (l.length = 0) from by rw [Bool.eq_iff_iff]; simp]
  · have h1 : (j : Int) < (l.length : Int) := by omega
    simp only [orchestratorref57_port.l0, if_pos h1, if_pos (show (0 : Int) ≤ (j : Int) by omega), rdI hj]
    exact bite _ _
  · simp only [orchestratorref57_port.l0, Int.lt_irrefl, if_false]
theorem ropen_ev (l : List S54) (p o : S41) (n : Int) (e : Bool) (hl : XL 248 X54 l) (hp : X41 p) (ho : X41 o) : Ev (fun k => orchestratorref57_open.f k l p.f0.f0 p.f0.f1 p.f0.f2 p.f0.f3 p.f0.f4 p.f0.f5 p.f0.f6 p.f0.f7 p.f0.f8 p.f0.f9 p.f0.f10 p.f0.f11 p.f0.f12 p.f1.f0 p.f1.f1 p.f1.f2 p.f1.f3 p.f1.f4 p.f1.f5 p.f1.f6 p.f1.f7 p.f1.f8 p.f1.f9 p.f2.f0 p.f2.f1 p.f2.f2 p.f2.f3 p.f2.f4 p.f2.f5 p.f2.f6 p.f2.f7 p.f2.f8 o.f0.f0 o.f0.f1 o.f0.f2 o.f0.f3 o.f0.f4 o.f0.f5 o.f0.f6 o.f0.f7 o.f0.f8 o.f0.f9 o.f0.f10 o.f0.f11 o.f0.f12 o.f1.f0 o.f1.f1 o.f1.f2 o.f1.f3 o.f1.f4 o.f1.f5 o.f1.f6 o.f1.f7 o.f1.f8 o.f1.f9 o.f2.f0 o.f2.f1 o.f2.f2 o.f2.f3 o.f2.f4 o.f2.f5 o.f2.f6 o.f2.f7 o.f2.f8 e n) (openB l p o n e) := by
  unfold orchestratorref57_open.f openB
  have hn := len_of hl (by decide)
  refine Ev.bind (risolated_ev l p e hl hp) (Ev.ite (fun h => ?_) (fun h => ?_))
  · simp only [h, Bool.not_true, Bool.false_or]
    have key : ∀ (d j : Nat), j + d = l.length → Ev (fun k => orchestratorref57_open.l0 k l e n (j : Int) p.f0.f0 p.f0.f1 p.f0.f2 p.f0.f3 p.f0.f4 p.f0.f5 p.f0.f6 p.f0.f7 p.f0.f8 p.f0.f9 p.f0.f10 p.f0.f11 p.f0.f12 p.f1.f0 p.f1.f1 p.f1.f2 p.f1.f3 p.f1.f4 p.f1.f5 p.f1.f6 p.f1.f7 p.f1.f8 p.f1.f9 p.f2.f0 p.f2.f1 p.f2.f2 p.f2.f3 p.f2.f4 p.f2.f5 p.f2.f6 p.f2.f7 p.f2.f8 o.f0.f0 o.f0.f1 o.f0.f2 o.f0.f3 o.f0.f4 o.f0.f5 o.f0.f6 o.f0.f7 o.f0.f8 o.f0.f9 o.f0.f10 o.f0.f11 o.f0.f12 o.f1.f0 o.f1.f1 o.f1.f2 o.f1.f3 o.f1.f4 o.f1.f5 o.f1.f6 o.f1.f7 o.f1.f8 o.f1.f9 o.f2.f0 o.f2.f1 o.f2.f2 o.f2.f3 o.f2.f4 o.f2.f5 o.f2.f6 o.f2.f7 o.f2.f8) ((l.drop j).any (letsB p e o n)) := by
      intro d
      induction d with
      | zero =>
        intro j hj
        have : j = l.length := by omega
        subst this
        refine Ev.step (fun k => rfl) ?_
        simp only [orchestratorref57_open.l0, Int.lt_irrefl, if_false, List.drop_length, List.any_nil]
        exact Ev.now _
      | succ d ih =>
        intro j hj
        have hlt : j < l.length := by omega
        have h1 : (j : Int) < (l.length : Int) := by omega
        have hx := hl.2 _ (List.getElem_mem hlt)
        rw [List.drop_eq_getElem_cons hlt]
        refine Ev.step (fun k => rfl) ?_
        simp only [orchestratorref57_open.l0, if_pos h1, if_pos (show (0 : Int) ≤ (j : Int) by omega), rd54 hlt, wrap_succ hlt (show l.length ≤ 4611686018427387904 by omega)]
        refine Ev.bind (riso_ev l[j] p e hx hp) (Ev.ite (fun hb => ?_) (fun hb => ?_))
        · have hr := len_of hx.2.2.2.2 (by decide)
          have inner : ∀ (c i : Nat), i + c = (l[j]).f4.length → Ev (fun k => orchestratorref57_open.l1 k l e n (j : Int) (i : Int) p.f0.f0 p.f0.f1 p.f0.f2 p.f0.f3 p.f0.f4 p.f0.f5 p.f0.f6 p.f0.f7 p.f0.f8 p.f0.f9 p.f0.f10 p.f0.f11 p.f0.f12 p.f1.f0 p.f1.f1 p.f1.f2 p.f1.f3 p.f1.f4 p.f1.f5 p.f1.f6 p.f1.f7 p.f1.f8 p.f1.f9 p.f2.f0 p.f2.f1 p.f2.f2 p.f2.f3 p.f2.f4 p.f2.f5 p.f2.f6 p.f2.f7 p.f2.f8 o.f0.f0 o.f0.f1 o.f0.f2 o.f0.f3 o.f0.f4 o.f0.f5 o.f0.f6 o.f0.f7 o.f0.f8 o.f0.f9 o.f0.f10 o.f0.f11 o.f0.f12 o.f1.f0 o.f1.f1 o.f1.f2 o.f1.f3 o.f1.f4 o.f1.f5 o.f1.f6 o.f1.f7 o.f1.f8 o.f1.f9 o.f2.f0 o.f2.f1 o.f2.f2 o.f2.f3 o.f2.f4 o.f2.f5 o.f2.f6 o.f2.f7 o.f2.f8) (((l[j]).f4.drop i).any (ruleB o n e) || (l.drop (j + 1)).any (letsB p e o n)) := by
            intro c
            induction c with
            | zero =>
              intro i hi
              have : i = (l[j]).f4.length := by omega
              subst this
              refine Ev.step (fun k => rfl) ?_
              simp only [orchestratorref57_open.l1, if_pos h1, if_pos (show (0 : Int) ≤ (j : Int) by omega), rd54 hlt, Int.lt_irrefl, if_false, List.drop_length, List.any_nil, Bool.false_or, wrap_succ hlt (show l.length ≤ 4611686018427387904 by omega)]
              exact ih (j + 1) (by omega)
            | succ c ihc =>
              intro i hi
              have hli : i < (l[j]).f4.length := by omega
              have h2 : (i : Int) < ((l[j]).f4.length : Int) := by omega
              have hy := hx.2.2.2.2.2 _ (List.getElem_mem hli)
              rw [List.drop_eq_getElem_cons hli]
              refine Ev.step (fun k => rfl) ?_
              simp only [orchestratorref57_open.l1, if_pos h1, if_pos (show (0 : Int) ≤ (j : Int) by omega), rd54 hlt, if_pos h2, if_pos (show (0 : Int) ≤ (i : Int) by omega), show rd_T58 (l[j]).f4 (i : Int) = (l[j]).f4[i] from getD_nat hli, wrap_succ hli (show (l[j]).f4.length ≤ 4611686018427387904 by omega), List.any_cons, Bool.or_assoc]
              have hnext := ihc (i + 1) (by omega)
              have hrule : ruleB o n e (l[j]).f4[i] = (((l[j]).f4[i]).f0 == e && ((decide (((l[j]).f4[i]).f1.length = 0) || ((l[j]).f4[i]).f1.any (peerB o)) && (decide (((l[j]).f4[i]).f2.length = 0) || hasI ((l[j]).f4[i]).f2 n))) := rfl
              refine Ev.ite (fun he => ?_) (fun he => ?_)
              · refine Ev.bind (rpeer_ev _ o hy.2.1 ho) (Ev.ite (fun hpe => ?_) (fun hpe => ?_))
                · refine Ev.bind (rport_ev _ n hy.2.2) (Ev.ite (fun hpo => ?_) (fun hpo => ?_))
                  · exact Ev.eq (Ev.now _) (by rw [hrule, he, hpe, hpo]; rfl)
                  · have hpo' := Bool.eq_false_iff.2 hpo
                    exact Ev.eq hnext (by rw [hrule, he, hpe, hpo']; rfl)
                · have hpe' := Bool.eq_false_iff.2 hpe
                  exact Ev.eq hnext (by rw [hrule, he, hpe']; rfl)
              · have he' := Bool.eq_false_iff.2 he
                exact Ev.eq hnext (by rw [hrule, he']; rfl)
          refine Ev.eq (inner (l[j]).f4.length 0 (by omega)) ?_
          simp only [List.drop_zero, List.any_cons, letsB, hb, Bool.true_and]
        · have hb' : isoB p e l[j] = false := Bool.eq_false_iff.2 hb
          refine Ev.eq (ih (j + 1) (by omega)) ?_
          simp only [List.any_cons, letsB, hb', Bool.false_and, Bool.false_or]
    exact key l.length 0 (by omega)
  · have h' : isolatedB l p e = false := Bool.eq_false_iff.2 h
    exact Ev.eq (Ev.now _) (by simp only [h', Bool.not_false, Bool.true_or])
theorem rkey_some (p : S41) (hp : X41 p) : orchestratorref13_KeyOf.f p.f0.f0 p.f0.f1 p.f0.f2 p.f0.f3 p.f0.f4 p.f0.f5 p.f0.f6 p.f0.f7 p.f0.f8 p.f0.f9 p.f0.f10 p.f0.f11 p.f0.f12 = some (keyB p) := by
  have h0 : p.f0.f0.size ≤ 140737488351232 := hp.1.1
  have h1 : p.f0.f1.size ≤ 140737488351232 := hp.1.2.1
  have h2 : p.f0.f2.size ≤ 140737488351232 := hp.1.2.2.1
  unfold orchestratorref13_KeyOf.f orchestratorref13_Key.f
  rw [if_pos (by omega), if_pos (by omega), if_pos (by omega), if_pos (by omega)]
  rfl
theorem rallowed_ev (l : List S54) (p o : S41) (n : Int) (hl : XL 248 X54 l) (hp : X41 p) (ho : X41 o) : Ev (fun k => orchestratorref57_Allowed.f k l p.f0.f0 p.f0.f1 p.f0.f2 p.f0.f3 p.f0.f4 p.f0.f5 p.f0.f6 p.f0.f7 p.f0.f8 p.f0.f9 p.f0.f10 p.f0.f11 p.f0.f12 p.f1.f0 p.f1.f1 p.f1.f2 p.f1.f3 p.f1.f4 p.f1.f5 p.f1.f6 p.f1.f7 p.f1.f8 p.f1.f9 p.f2.f0 p.f2.f1 p.f2.f2 p.f2.f3 p.f2.f4 p.f2.f5 p.f2.f6 p.f2.f7 p.f2.f8 o.f0.f0 o.f0.f1 o.f0.f2 o.f0.f3 o.f0.f4 o.f0.f5 o.f0.f6 o.f0.f7 o.f0.f8 o.f0.f9 o.f0.f10 o.f0.f11 o.f0.f12 o.f1.f0 o.f1.f1 o.f1.f2 o.f1.f3 o.f1.f4 o.f1.f5 o.f1.f6 o.f1.f7 o.f1.f8 o.f1.f9 o.f2.f0 o.f2.f1 o.f2.f2 o.f2.f3 o.f2.f4 o.f2.f5 o.f2.f6 o.f2.f7 o.f2.f8 n) (allowedB l n p o) := by
  unfold orchestratorref57_Allowed.f allowedB
  simp only [rkey_some p hp, rkey_some o ho, Option.bind_some]
  refine Ev.ite (fun h => ?_) (fun h => ?_)
  · exact Ev.eq (Ev.now _) (by simp only [h, decide_true, Bool.true_or])
  · refine Ev.bind (ropen_ev l p o n true hl hp ho) (Ev.ite (fun h2 => ?_) (fun h2 => ?_))
    · exact Ev.bind (ropen_ev l o p n false hl ho hp) (Ev.eq (Ev.now _) (by simp only [h, h2, decide_false, Bool.false_or, Bool.true_and]))
    · have h' : openB l p o n true = false := Bool.eq_false_iff.2 h2
      exact Ev.eq (Ev.now _) (by simp only [h, h', decide_false, Bool.false_or, Bool.false_and])
end Go.Proofs.Ytkdikhonafbgdaa.Pure
