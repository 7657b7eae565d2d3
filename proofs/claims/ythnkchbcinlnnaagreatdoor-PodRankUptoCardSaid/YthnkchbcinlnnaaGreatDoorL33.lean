/- The laws of pods: phases, order. Conditions: stated at each. -/
import Derived.Test.YthnkchbcinlnnaaGreatDoorVa
import Derived.Test.YthnkchbcinlnnaaGreatDoorSrt
namespace Go.Proofs.YthnkchbcinlnnaaGreatDoor.Ev
open Go Go.RowKit
set_option linter.unusedVariables false
set_option linter.unusedSimpArgs false
set_option maxRecDepth 100000
noncomputable section
theorem clampV (n m : Int) (hm : 0 ≤ m) : ref33_clamp.v n m = iMin (iMax n 0) m := by
  unfold ref33_clamp.v iMin iMax iLt
  by_cases h : n < 0
  · have h1 : ¬ (0 : Int) < n := by omega
    rw [decide_eq_true h]
    show (0 : Int) = if m < (if (0 : Int) > n then 0 else n) then m else (if (0 : Int) > n then 0 else n)
    rw [if_pos (show (0 : Int) > n from h), if_neg (by omega)]
  · rw [decide_eq_false h]
    by_cases h2 : m < n
    · rw [decide_eq_true h2]
      show m = if m < (if (0 : Int) > n then 0 else n) then m else (if (0 : Int) > n then 0 else n)
      rw [if_neg (show ¬ (0 : Int) > n from h), if_pos h2]
    · rw [decide_eq_false h2]
      show n = if m < (if (0 : Int) > n then 0 else n) then m else (if (0 : Int) > n then 0 else n)
      rw [if_neg (show ¬ (0 : Int) > n from h), if_neg h2]
theorem phaseV (a0 : Int) (a1 : Rows) : pod_Phase.v a0 a1 = ref33_Phase.v a0 a1 := rfl
theorem activeV (a : Row) : pod_Active.v a = ref33_Active.v a := rfl
theorem availableV (a : Row) (m n : Int) : pod_Available.v a m n = ref33_Available.v a m n := by
  unfold pod_Available.v ref33_Available.v
  dsimp only
  rw [activeV]
  generalize ref33_Active.v _ = r
  rw [clampV n _ (by decide), clampV m _ (by decide), clampV (rInt a 25) _ (by decide)]
  cases r with
  | false => rfl
  | true => cases hb : rBool a 24 <;> rfl
theorem beqR (b : Bool) : bEq b b = true := by cases b <;> rfl
theorem podPhaseV (a0 : Int) (a1 : Rows) (a2 : Row) (a3 a4 : Int) : law33_PodPhase.v a0 a1 a2 a3 a4 = true := by
  unfold law33_PodPhase.v law33_lv.v
  dsimp only
  rw [phaseV, activeV, availableV]
  have e : iEq (ref33_Phase.v a0 a1) (ref33_Phase.v a0 a1) = true := beq_self_eq_true _
  rw [e]
  simp only [cond_true, bIte, beqR]
  cases (bif iLt 40 (rLen a1) then true else bNot (bif bNot (iLt 40 (rLen a1)) then law19_SmallPod.v (et 40 a2) else default)) <;> rfl
theorem law33_PodPhase.true_ (a0 : Int) (a1 : Rows) (a2 : Row) (a3 a4 : Int) (h1 : Brs a1) (h2 : Br a2) : D (fun k => (law33_PodPhase.f k a0 a1 a2 a3 a4).eval) (fun u => u = true) := (law33_PodPhase.val a0 a1 a2 a3 a4 h1 h2).true_ (podPhaseV a0 a1 a2 a3 a4)
theorem restartsV (a : Row) : pod_restarts.v a = ref33_restarts.v a := by
  have e : rSl (et 40 a) 28 = rSl a 28 := by kernel_rfl
  show walk pod_restarts.p3 pod_restarts.z3 (rSl a 28) 0 0 = walk ref33_restarts.p3 ref33_restarts.z3 (rSl (et 40 a) 28) 0 0
  rw [e]
  refine walk_congr (fun i q x hq => ?_) (fun x => rfl)
  unfold pod_restarts.p3 ref33_restarts.p3
  dsimp only
  rw [clampV _ _ (by decide)]
theorem lessV (a b : Row) : pod_Less.v a b = ref33_Less.v a b := by
  unfold pod_Less.v ref33_Less.v
  simp only [restartsV]
  rfl
theorem podOrderV (a0 a1 : Row) : law33_PodOrder.v a0 a1 = true := by
  unfold law33_PodOrder.v law33_lv.v
  dsimp only
  rw [lessV, beqR]
  generalize law19_SmallPod.v (et 40 a0) = s0
  generalize law19_SmallPod.v (et 40 a1) = s1
  cases (bIte (bIte (bIte (bNot s0) true (bNot (bif bNot (bNot s0) then s1 else default))) true (iLt 40 (rLen (rSl a0 28)))) true (iLt 40 (rLen (rSl a1 28)))) <;> rfl
theorem law33_PodOrder.true_ (a0 a1 : Row) (h0 : Br a0) (h1 : Br a1) : D (fun k => (law33_PodOrder.f k a0 a1).eval) (fun u => u = true) := (law33_PodOrder.val a0 a1 h0 h1).true_ (podOrderV a0 a1)
/-- Words of numbers in order, then strings. -/
def lx : List Int → List Int → ByteArray → ByteArray → Bool
  | a :: l, b :: m, s, t => bif iEq a b then lx l m s t else iLt a b
  | _, _, s, t => sLt s t
theorem lx_irr (s : ByteArray) : ∀ l : List Int, lx l l s s = false
  | [] => by show sLt s s = false; rw [sLt_lt]; exact decide_eq_false (List.lt_irrefl _)
  | a :: l => by
    show (bif iEq a a then lx l l s s else iLt a a) = false
    rw [iEq_refl]; exact lx_irr s l
theorem lx_tr {s t u : ByteArray} : ∀ {l m n : List Int}, l.length = m.length → m.length = n.length → lx l m s t = true → lx m n t u = true → lx l n s u = true
  | [], [], [], _, _, h, k => by
    have h : sLt s t = true := h
    have k : sLt t u = true := k
    show sLt s u = true
    rw [sLt_lt] at h k ⊢
    exact decide_eq_true (List.lt_trans (of_decide_eq_true h) (of_decide_eq_true k))
  | a :: l, b :: m, c :: n, h1, h2, h, k => by
    have h : (bif iEq a b then lx l m s t else iLt a b) = true := h
    have k : (bif iEq b c then lx m n t u else iLt b c) = true := k
    show (bif iEq a c then lx l n s u else iLt a c) = true
    simp only [List.length_cons] at h1 h2
    by_cases e1 : a = b
    · subst e1
      rw [iEq_refl] at h
      by_cases e2 : a = c
      · subst e2
        rw [iEq_refl] at k ⊢
        exact lx_tr (by omega) (by omega) h k
      · have e2' : iEq a c = false := beq_eq_false_iff_ne.2 e2
        rw [e2'] at k ⊢; exact k
    · have e1' : iEq a b = false := beq_eq_false_iff_ne.2 e1
      rw [e1'] at h
      have h : a < b := of_decide_eq_true h
      by_cases e2 : b = c
      · subst e2; rw [e1']; exact decide_eq_true h
      · have e2' : iEq b c = false := beq_eq_false_iff_ne.2 e2
        rw [e2'] at k
        have k : b < c := of_decide_eq_true k
        have e3 : iEq a c = false := beq_eq_false_iff_ne.2 (by omega)
        rw [e3]; exact decide_eq_true (by omega)
theorem lx_eq {s t : ByteArray} : ∀ {l m : List Int}, l.length = m.length → lx l m s t = false → lx m l t s = false → l = m ∧ s = t
  | [], [], _, h, k => ⟨rfl, sLt_false h k⟩
  | a :: l, b :: m, h1, h, k => by
    have h : (bif iEq a b then lx l m s t else iLt a b) = false := h
    have k : (bif iEq b a then lx m l t s else iLt b a) = false := k
    simp only [List.length_cons] at h1
    by_cases e1 : a = b
    · subst e1
      rw [iEq_refl] at h k
      obtain ⟨q1, q2⟩ := lx_eq (by omega) h k
      exact ⟨by rw [q1], q2⟩
    · have e1' : iEq a b = false := beq_eq_false_iff_ne.2 e1
      have e2' : iEq b a = false := beq_eq_false_iff_ne.2 (Ne.symm e1)
      rw [e1'] at h; rw [e2'] at k
      have h : ¬ a < b := of_decide_eq_false h
      have k : ¬ b < a := of_decide_eq_false k
      omega
theorem lx_nt {s t u : ByteArray} {l m n : List Int} (h1 : l.length = m.length) (h2 : m.length = n.length) (h : lx l m s t = false) (k : lx m n t u = false) : lx l n s u = false := by
  cases e : lx l n s u with
  | false => rfl
  | true =>
    cases h3 : lx m l t s with
    | true => rw [lx_tr (by omega) (by omega) h3 e] at k; cases k
    | false =>
      obtain ⟨q1, q2⟩ := lx_eq h1 h h3
      subst q1; subst q2
      rw [k] at e; cases e
/-- A pod's numbers, in the order in which they count. -/
def kw (a : Row) : List Int := [bif sEq (rStr a 13) ByteArray.empty then 0 else 1, rInt a 23, bif rBool a 24 then 1 else 0, bif rBool a 24 then - rInt a 25 else 0, - pod_restarts.v (et 40 a), - rInt a 6]
theorem kw_len (a b : Row) : (kw a).length = (kw b).length := rfl
theorem iEq_neg (a b : Int) : iEq (-a) (-b) = iEq a b := by
  rw [Bool.eq_iff_iff, iEq_iff, iEq_iff]; omega
theorem iLt_neg (a b : Int) : iLt (-a) (-b) = iLt b a := by
  rw [Bool.eq_iff_iff, iLt_iff, iLt_iff]; omega
theorem less_lx (a b : Row) : pod_Less.v a b = lx (kw a) (kw b) (meta_KeyOf.v (et 28 a)) (meta_KeyOf.v (et 28 b)) := by
  unfold pod_Less.v kw
  simp only [lx, iEq_neg, iLt_neg]
  generalize sEq (rStr a 13) ByteArray.empty = n0
  generalize sEq (rStr b 13) ByteArray.empty = n1
  generalize rBool a 24 = d0
  generalize rBool b 24 = d1
  generalize pod_restarts.v _ = r0
  generalize pod_restarts.v _ = r1
  generalize sLt _ _ = z
  cases n0 <;> cases n1 <;> first
    | rfl
    | (show (bif bNot (iEq (rInt a 23) (rInt b 23)) then _ else _) = (bif iEq (rInt a 23) (rInt b 23) then _ else _)
       cases iEq (rInt a 23) (rInt b 23) with
       | false => rfl
       | true =>
         cases d0 <;> cases d1 <;> first
           | rfl
           | (simp only [bEq, bNot, bIte, cond_true, cond_false, Bool.not_true, Bool.not_false, beq_self_eq_true, iEq_refl, iEq_neg, iLt_neg]
              cases iEq (rInt a 25) (rInt b 25) <;> cases iEq r0 r1 <;> cases iEq (rInt a 6) (rInt b 6) <;> rfl))
theorem less_irr (a : Row) : pod_Less.v a a = false := by rw [less_lx]; exact lx_irr _ _
theorem less_tr {a b c : Row} (h : pod_Less.v a b = true) (k : pod_Less.v b c = true) : pod_Less.v a c = true := by rw [less_lx] at h k ⊢; exact lx_tr (kw_len _ _) (kw_len _ _) h k
theorem less_nt {a b c : Row} (h : pod_Less.v a b = false) (k : pod_Less.v b c = false) : pod_Less.v a c = false := by rw [less_lx] at h k ⊢; exact lx_nt (kw_len _ _) (kw_len _ _) h k
theorem less_key {a b : Row} (h : pod_Less.v a b = false) (k : pod_Less.v b a = false) : meta_KeyOf.v (et 28 a) = meta_KeyOf.v (et 28 b) := by rw [less_lx] at h k; exact (lx_eq (kw_len _ _) h k).2
theorem less_ready {a b : Row} (h0 : sEq (rStr a 13) ByteArray.empty = false) (h1 : sEq (rStr b 13) ByteArray.empty = false) (h2 : iEq (rInt a 23) (rInt b 23) = true) (h3 : rBool a 24 = false) (h4 : rBool b 24 = true) : pod_Less.v a b = true := by
  unfold pod_Less.v
  rw [h0, h1, h2, h3, h4]; rfl
theorem podRankV (a0 a1 a2 : Row) : law33_PodRank.v a0 a1 a2 = true := by
  have hw : law33_PodRank.w2 [et 40 a0, et 40 a1, et 40 a2] = .inl true ∨ law33_PodRank.w2 [et 40 a0, et 40 a1, et 40 a2] = .inr () := by
    refine walk_inv (p := law33_PodRank.p2) (z := law33_PodRank.z2) (fun _ => True) (fun r => r = .inl true ∨ r = .inr ()) (fun i q x _ _ => ?_) (fun x _ => .inr rfl) trivial
    unfold law33_PodRank.p2 law33_lv.v
    dsimp only
    cases bIte (bNot (law19_SmallPod.v (et 40 q))) true (iLt 40 (rLen (rSl q 28))) with
    | true => exact .inr ⟨_, rfl, .inl rfl⟩
    | false => exact .inl ⟨_, rfl, trivial⟩
  unfold law33_PodRank.v law33_lv.v
  rcases hw with hw | hw
  · rw [hw]; rfl
  · rw [hw]
    simp only [Sum.elim_inr]
    have e0 : sEq (rStr a0 13) ByteArray.empty = sEq (rStr (et 40 a0) 13) ByteArray.empty := by kernel_rfl
    have e1 : sEq (rStr a1 13) ByteArray.empty = sEq (rStr (et 40 a1) 13) ByteArray.empty := by kernel_rfl
    have e2 : iEq (rInt a0 23) (rInt a1 23) = iEq (rInt (et 40 a0) 23) (rInt (et 40 a1) 23) := by kernel_rfl
    have e3 : rBool a0 24 = rBool (et 40 a0) 24 := by kernel_rfl
    have e4 : rBool a1 24 = rBool (et 40 a1) 24 := by kernel_rfl
    have k0 : ref13_KeyOf.v (et 28 a0) = meta_KeyOf.v (et 28 (et 40 a0)) := by kernel_rfl
    have k1 : ref13_KeyOf.v (et 28 a1) = meta_KeyOf.v (et 28 (et 40 a1)) := by kernel_rfl
    rw [e0, e1, e2, e3, e4, k0, k1]
    generalize et 40 a0 = x
    generalize et 40 a1 = y
    generalize et 40 a2 = z
    have i1 := less_irr x
    have i2 : pod_Less.v x y = true → pod_Less.v y x = false := fun h => by
      cases k : pod_Less.v y x with
      | false => rfl
      | true => rw [less_tr h k] at i1; cases i1
    have i3 : pod_Less.v x y = true → pod_Less.v y z = true → pod_Less.v x z = true := less_tr
    have i4 : pod_Less.v x y = false → pod_Less.v y z = false → pod_Less.v x z = false := less_nt
    have i5 : pod_Less.v x y = false → pod_Less.v y x = false → sEq (meta_KeyOf.v (et 28 x)) (meta_KeyOf.v (et 28 y)) = true := fun h k => by rw [less_key h k]; exact sEq_refl _
    have i6 : sEq (rStr x 13) ByteArray.empty = false → sEq (rStr y 13) ByteArray.empty = false → iEq (rInt x 23) (rInt y 23) = true → rBool x 24 = false → rBool y 24 = true → pod_Less.v x y = true := less_ready
    generalize pod_Less.v x x = p0 at *
    generalize pod_Less.v x y = p1 at *
    generalize pod_Less.v y x = p2 at *
    generalize pod_Less.v y z = p3 at *
    generalize pod_Less.v x z = p4 at *
    generalize sEq (meta_KeyOf.v (et 28 x)) (meta_KeyOf.v (et 28 y)) = q0 at *
    generalize sEq (rStr x 13) ByteArray.empty = q1 at *
    generalize sEq (rStr y 13) ByteArray.empty = q2 at *
    generalize iEq (rInt x 23) (rInt y 23) = q3 at *
    generalize rBool x 24 = q4 at *
    generalize rBool y 24 = q5 at *
    subst i1
    clear e0 e1 e2 e3 e4 k0 k1 hw
    revert p1 p2 p3 p4 q0 q1 q2 q3 q4 q5
    decide
theorem law33_PodRank.true_ (a0 a1 a2 : Row) (h0 : Br a0) (h1 : Br a1) (h2 : Br a2) : D (fun k => (law33_PodRank.f k a0 a1 a2).eval) (fun u => u = true) := (law33_PodRank.val a0 a1 a2 h0 h1 h2).true_ (podRankV a0 a1 a2)
/-- What the walks come to. -/
theorem phase_fin (a0 : Int) (a1 : Rows) (hc : bIte (iEq a0 2) true (iEq a0 1) = false) : (pod_Phase.w3 a0 a1 ((iLt 0 (rLen a1)), false, false)).1 = false := by
  have hd : ∀ q, pod_done.v a0 (et 63 q) = false := fun q => by
    unfold pod_done.v
    have h2 : iEq a0 2 = false := by cases h : iEq a0 2 with | false => rfl | true => rw [h] at hc; cases hc
    have h1 : iEq a0 1 = false := by rw [h2] at hc; exact hc
    rw [h2, h1]
    cases iEq (rInt (et 63 q) 1) 2 <;> rfl
  cases a1 with
  | nil => rfl
  | cons q es =>
    have hs : ∀ i q (x : Bool × Bool × Bool), ∃ y, pod_Phase.p3 a0 i q x = .inl y ∧ y.1 = false := fun i q x => by
      unfold pod_Phase.p3
      dsimp only
      rw [hd]
      refine ⟨_, rfl, ?_⟩
      cases x.1 <;> rfl
    obtain ⟨y, e1, e2⟩ := hs 0 q ((iLt 0 (rLen (q :: es))), false, false)
    show (walk (pod_Phase.p3 a0) pod_Phase.z3 (q :: es) 0 _).1 = false
    simp only [walk]
    rw [e1]
    refine walk_inv (p := pod_Phase.p3 a0) (z := pod_Phase.z3) (fun x => x.1 = false) (fun r => r.1 = false) (fun i q x _ hx => ?_) (fun x hx => hx) e2
    obtain ⟨y, h1, h2⟩ := hs i q x
    exact .inl ⟨y, h1, h2⟩
theorem phases_fin (a0 : Int) (a1 : Rows) (hc : bIte (iEq a0 2) true (iEq a0 1) = false) : (law33_PodPhases.w5 a0 a1 (bIte (iLt 0 (rLen a1)) (bIte (iEq a0 2) true (iEq a0 1)) false, false)).1 = false := by
  rw [hc]
  refine walk_inv (p := law33_PodPhases.p5 a0) (z := law33_PodPhases.z5) (fun x => x.1 = false) (fun r => r.1 = false) (fun i q x _ hx => ?_) (fun x hx => hx) (by cases iLt 0 (rLen a1) <;> rfl)
  refine .inl ⟨_, rfl, ?_⟩
  dsimp only
  rw [hx]; rfl
theorem phases_rel (a0 : Int) (a1 : Rows) (hc : bIte (iEq a0 2) true (iEq a0 1) = true) : (pod_Phase.w3 a0 a1 ((iLt 0 (rLen a1)), false, false)).1 = (law33_PodPhases.w5 a0 a1 (bIte (iLt 0 (rLen a1)) (bIte (iEq a0 2) true (iEq a0 1)) false, false)).1 ∧
    (pod_Phase.w3 a0 a1 ((iLt 0 (rLen a1)), false, false)).2.1 = (law33_PodPhases.w5 a0 a1 (bIte (iLt 0 (rLen a1)) (bIte (iEq a0 2) true (iEq a0 1)) false, false)).2 := by
  refine walk_rel (p := pod_Phase.p3 a0) (p' := law33_PodPhases.p5 a0) (z := pod_Phase.z3) (z' := law33_PodPhases.z5) (fun x y => x.1 = y.1 ∧ x.2.1 = y.2) (fun x y => x.1 = y.1 ∧ x.2.1 = y.2) (fun i j q x y _ hxy => ?_) (fun x y h => h) ?_
  · refine .inl ⟨_, _, rfl, rfl, ?_, ?_⟩
    · dsimp only
      rw [hxy.1]
      have hd : pod_done.v a0 (et 63 q) = bIte (iEq (rInt q 1) 2) (bIte (iEq a0 2) true (iEq (rInt q 3) 0)) false := by
        have hd0 : pod_done.v a0 (et 63 q) = bIte (iEq (rInt q 1) 2) (bIte (iEq a0 2) true (bIte (iEq a0 1) (iEq (rInt q 3) 0) false)) false := by kernel_rfl
        rw [hd0]
        cases h2 : iEq a0 2 with
        | true => rfl
        | false =>
          have h1 : iEq a0 1 = true := by rw [h2] at hc; exact hc
          rw [h1]; rfl
      rw [hd]
      generalize iEq (rInt q 1) 2 = u
      generalize bIte (iEq a0 2) true (iEq (rInt q 3) 0) = v
      cases y.1 <;> cases u <;> rfl
    · dsimp only
      rw [hxy.2]
  · rw [hc]
    refine ⟨?_, rfl⟩
    cases iLt 0 (rLen a1) <;> rfl
theorem podPhasesV (a0 : Int) (a1 : Rows) : law33_PodPhases.v a0 a1 = true := by
  unfold law33_PodPhases.v law33_lv.v
  dsimp only
  have h0 := phase_fin 0 a1 rfl
  have hA : iEq (pod_Phase.v 0 a1) 0 = true ∨ iEq (pod_Phase.v 0 a1) 1 = true := by
    unfold pod_Phase.v
    dsimp only
    rw [h0]
    cases (pod_Phase.w3 0 a1 (iLt 0 (rLen a1), false, false)).2.2
    · exact .inl rfl
    · exact .inr rfl
  have hB : bIte (iEq (pod_Phase.v 0 a1) 0) true (iEq (pod_Phase.v 0 a1) 1) = true := by
    rcases hA with h | h
    · rw [h]; rfl
    · rw [h]; cases iEq (pod_Phase.v 0 a1) 0 <;> rfl
  rw [hB]
  have key : bIte (bNot (bEq (bIte (iEq (pod_Phase.v a0 a1) 2) true (iEq (pod_Phase.v a0 a1) 3)) (law33_PodPhases.w5 a0 a1 (bIte (iLt 0 (rLen a1)) (bIte (iEq a0 2) true (iEq a0 1)) false, false)).1)) true
      (bIte (law33_PodPhases.w5 a0 a1 (bIte (iLt 0 (rLen a1)) (bIte (iEq a0 2) true (iEq a0 1)) false, false)).1 (bNot (bEq (iEq (pod_Phase.v a0 a1) 3) (law33_PodPhases.w5 a0 a1 (bIte (iLt 0 (rLen a1)) (bIte (iEq a0 2) true (iEq a0 1)) false, false)).2)) false) = false := by
    have main : ∀ w : Bool × Bool, (pod_Phase.w3 a0 a1 ((iLt 0 (rLen a1)), false, false)).1 = w.1 → (w.1 = true → (pod_Phase.w3 a0 a1 ((iLt 0 (rLen a1)), false, false)).2.1 = w.2) →
        bIte (bNot (bEq (bIte (iEq (pod_Phase.v a0 a1) 2) true (iEq (pod_Phase.v a0 a1) 3)) w.1)) true (bIte w.1 (bNot (bEq (iEq (pod_Phase.v a0 a1) 3) w.2)) false) = false := by
      intro w e1 e2
      unfold pod_Phase.v
      dsimp only
      rw [e1]
      obtain ⟨w1, w2⟩ := w
      dsimp only at e1 e2 ⊢
      cases w1 with
      | false =>
        cases (pod_Phase.w3 a0 a1 (iLt 0 (rLen a1), false, false)).2.2 <;> rfl
      | true =>
        rw [e2 rfl]
        cases w2 <;> rfl
    cases hc : bIte (iEq a0 2) true (iEq a0 1) with
    | true =>
      obtain ⟨e1, e2⟩ := phases_rel a0 a1 hc
      rw [hc] at e1 e2
      exact main _ e1 (fun _ => e2)
    | false =>
      have e1 := phase_fin a0 a1 hc
      have e2 := phases_fin a0 a1 hc
      rw [hc] at e2
      refine main _ (e1.trans e2.symm) (fun h => ?_)
      rw [e2] at h; cases h
  rw [key]
  cases iLt 40 (rLen a1) <;> rfl
theorem law33_PodPhases.true_ (a0 : Int) (a1 : Rows) (h1 : Brs a1) : D (fun k => (law33_PodPhases.f k a0 a1).eval) (fun u => u = true) := (law33_PodPhases.val a0 a1 h1).true_ (podPhasesV a0 a1)
end
end Go.Proofs.YthnkchbcinlnnaaGreatDoor.Ev
