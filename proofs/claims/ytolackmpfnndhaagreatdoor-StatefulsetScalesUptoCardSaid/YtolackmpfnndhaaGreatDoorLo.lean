/- Stateful sets: the one step of an ordered set; the law StatefulsetOrder. Conditions: stated at each. -/
import Derived.Test.YtolackmpfnndhaaGreatDoorLp
namespace Go.Proofs.YtolackmpfnndhaaGreatDoor.Ev
open Go Go.RowKit
set_option linter.unusedVariables false
set_option maxRecDepth 100000
noncomputable section
theorem rat_map (g : Nat → Row) (i : Nat) (hi : i < 40) : rAt ((List.range 40).map g) (i : Int) = g i := by
  rw [rAt_nat, List.getD_eq_getElem?_getD, List.getElem?_map, List.getElem?_range hi]; rfl
theorem len_map (g : Nat → Row) : rLen ((List.range 40).map g) = 40 := by unfold rLen; simp
theorem settled_any (l : Rows) (h : l.length ≤ 1048576) : D (fun k => (statefulset_settled.f k l).eval) (fun _ => True) := by
  refine D.bnd (q := fun _ => True) (D.bnd (q := fun _ => True) (D.cas (q := fun _ => True) (D.loop (fun x : Int => 0 ≤ x ∧ x.toNat ≤ l.length) (fun x => l.length - x.toNat) _ (fun x hx => ?_) 0 ⟨Int.le_refl _, Nat.zero_le _⟩) (fun r _ => D.ret trivial) (fun r _ => D.ret trivial)) (fun r _ => D.ret trivial)) (fun r _ => D.ret trivial)
  obtain ⟨h1, h2⟩ := hx
  obtain ⟨i, rfl⟩ : ∃ j : Nat, x = j := ⟨x.toNat, by omega⟩
  rw [Int.toNat_natCast] at h2
  by_cases hi : i < l.length
  · refine D.tt (ilt_nat hi) (D.tt (iin_nat hi) (D.bnd (q := fun _ => True) (D.ret trivial) (fun b _ => ?_)))
    refine D.test (fun _ => D.ret trivial) (fun _ => D.ret ?_)
    show (0 ≤ iAdd .i64 (i : Int) 1 ∧ (iAdd .i64 (i : Int) 1).toNat ≤ l.length) ∧ l.length - (iAdd .i64 (i : Int) 1).toNat < l.length - ((i : Int)).toNat
    rw [iAdd_in (by omega) (by omega)]; omega
  · exact D.test (fun e => by rw [show iLt (i : Int) (rLen l) = false from ilt_nat' hi] at e; cases e) (fun _ => D.ret trivial)
/-- What the step of an ordered set may be. -/
def Stp (g : Nat → Row) (R Q : Nat) (v : Rows × Rows) : Prop :=
  (∃ c : Nat, v = ([[.int .i64 (c : Int)]], []) ∧ c < R ∧ rBool (g c) 0 = false ∧ ∀ k, k < c → rBool (g k) 0 = true ∧ rBool (g k) 1 = true) ∨ v = ([], []) ∨
  (∃ j : Nat, v = ([], [[.str (rStr (g j) 5)]]) ∧ j < 40 ∧ rBool (g j) 0 = true ∧ ((j < R ∧ rBool (g j) 3 = true) ∨ (R ≤ j ∧ ∀ k, j < k → k < 40 → rBool (g k) 0 = false) ∨ (Q ≤ j ∧ j < R)))
theorem outdated_val (g : Nat → Row) (R Q : Nat) (hR : R ≤ 40) : D (fun k => (statefulset_outdated.f k ((List.range 40).map g) (R : Int) (Q : Int)).eval) (fun v => v = -1 ∨ ∃ j : Nat, v = (j : Int) ∧ Q ≤ j ∧ j < R ∧ rBool (g j) 0 = true) := by
  refine D.cas (q := fun v => match v with | .inl w => ∃ j : Nat, w = (j : Int) ∧ Q ≤ j ∧ j < R ∧ rBool (g j) 0 = true | .inr _ => True) ?_ (fun r hr => D.ret (Or.inr hr)) (fun r _ => D.ret (Or.inl rfl))
  refine D.mono (D.loop (p := fun v => match v with | .inl w => ∃ j : Nat, w = (j : Int) ∧ Q ≤ j ∧ j < R ∧ rBool (g j) 0 = true | .inr _ => True) (fun x : Int => -1 ≤ x ∧ x < R) (fun x => (x + 1).toNat) (fun x hx => ?_) _ ?_) (fun v hv => hv)
  · obtain ⟨h1, h2⟩ := hx
    refine D.test (fun e => ?_) (fun _ => D.ret trivial)
    have e := iLe_iff.1 e
    obtain ⟨i, rfl⟩ : ∃ j : Nat, x = j := ⟨x.toNat, by omega⟩
    have hi : i < 40 := by omega
    have hin : iIn (i : Int) (rLen ((List.range 40).map g)) = true := by rw [len_map]; exact decide_eq_true ⟨by omega, by omega⟩
    refine D.tt hin (D.tt (bimp_2 _ hin) (D.test (fun e2 => D.ret ?_) (fun _ => D.ret ?_)))
    · have e2 : bIte (rBool (rAt ((List.range 40).map g) (i : Int)) 0) (bNot (rBool (rAt ((List.range 40).map g) (i : Int)) 2)) false = true := e2
      rw [rat_map g i hi] at e2
      exact ⟨i, rfl, by omega, by omega, and_l e2⟩
    · show (-1 ≤ iSub .i64 (i : Int) 1 ∧ iSub .i64 (i : Int) 1 < R) ∧ (iSub .i64 (i : Int) 1 + 1).toNat < ((i : Int) + 1).toNat
      rw [iSub_in (by omega) (by omega)]; omega
  · rw [iSub_in (by omega) (by omega)]; omega
theorem ordered_val (g : Nat → Row) (R Q : Nat) (hR : R ≤ 40) : D (fun k => (statefulset_ordered.f k ((List.range 40).map g) (R : Int) (Q : Int)).eval) (Stp g R Q) := by
  refine D.tt (by rw [len_map]; exact decide_eq_true (by omega)) ?_
  have hcut : rCut ((List.range 40).map g) 0 (R : Int) = ((List.range 40).map g).take R := by unfold rCut; simp
  have hcl : (((List.range 40).map g).take R).length = R := by simp; omega
  have hat : ∀ i, i < R → rAt (((List.range 40).map g).take R) (i : Int) = g i := fun i hi => by
    rw [rAt_nat, List.getD_eq_getElem?_getD, List.getElem?_take, if_pos hi, List.getElem?_map, List.getElem?_range (by omega)]; rfl
  refine D.cas (q := fun v => match v with | .inl w => Stp g R Q w | .inr _ => True) ?_ (fun r hr => D.ret hr) (fun r _ => ?_)
  · show D (fun k => iter (statefulset_ordered.s2 k ((List.range 40).map g) (R : Int) (Q : Int) (rCut ((List.range 40).map g) 0 (R : Int)) (rLen (rCut ((List.range 40).map g) 0 (R : Int)))) k 0) _
    rw [hcut]
    have hrl : rLen (((List.range 40).map g).take R) = (R : Int) := by unfold rLen; rw [hcl]
    rw [hrl]
    refine D.mono (D.loop (p := fun v => match v with | .inl w => Stp g R Q w | .inr _ => True) (fun x : Int => ∃ i : Nat, x = (i : Int) ∧ i ≤ R ∧ ∀ k, k < i → rBool (g k) 0 = true ∧ rBool (g k) 1 = true) (fun x => R - x.toNat) (fun x hx => ?_) _ ⟨0, rfl, Nat.zero_le _, fun k hk => by omega⟩) (fun v hv => hv)
    obtain ⟨i, rfl, hi, hb⟩ := hx
    by_cases hlt : i < R
    · have hin : iIn (i : Int) (rLen (((List.range 40).map g).take R)) = true := by rw [hrl]; exact iin_nat hlt
      refine D.tt (ilt_nat hlt) (D.tt hin (D.test (fun e => D.ret ?_) (fun e => D.test (fun e2 => D.ret ?_) (fun e2 => D.test (fun e3 => D.ret ?_) (fun _ => D.ret (Or.inr (Or.inl rfl)))))))
      · have e : bNot (rBool (rAt (((List.range 40).map g).take R) (i : Int)) 0) = true := e
        rw [hat i hlt] at e
        exact Or.inl ⟨i, rfl, hlt, bnot_t e, hb⟩
      · have e : bNot (rBool (rAt (((List.range 40).map g).take R) (i : Int)) 0) = false := e
        have e2 : rBool (rAt (((List.range 40).map g).take R) (i : Int)) 1 = true := e2
        rw [hat i hlt] at e e2
        show (∃ j : Nat, iAdd .i64 (i : Int) 1 = (j : Int) ∧ j ≤ R ∧ ∀ k, k < j → rBool (g k) 0 = true ∧ rBool (g k) 1 = true) ∧ R - (iAdd .i64 (i : Int) 1).toNat < R - ((i : Int)).toNat
        rw [iAdd_in (by omega) (by omega)]
        refine ⟨⟨i + 1, by omega, by omega, fun k hk => ?_⟩, by omega⟩
        by_cases hki : k = i
        · subst hki; exact ⟨bnot_f e, e2⟩
        · exact hb k (by omega)
      · have e : bNot (rBool (rAt (((List.range 40).map g).take R) (i : Int)) 0) = false := e
        have e3 : bIte (rBool (rAt (((List.range 40).map g).take R) (i : Int)) 3) (bNot (rBool (rAt (((List.range 40).map g).take R) (i : Int)) 4)) false = true := e3
        show Stp g R Q ([], [[.str (rStr (rAt (((List.range 40).map g).take R) (i : Int)) 5)]])
        rw [hat i hlt] at e e3 ⊢
        exact Or.inr (Or.inr ⟨i, rfl, by omega, bnot_f e, Or.inl ⟨hlt, and_l e3⟩⟩)
    · exact D.test (fun e => by rw [show iLt (i : Int) (R : Int) = false from ilt_nat' hlt] at e; cases e) (fun _ => D.ret trivial)
  refine D.cas (q := fun v => match v with | .inl w => Stp g R Q w | .inr _ => True) ?_ (fun r hr => D.ret hr) (fun r _ => ?_)
  · refine D.mono (D.loop (p := fun v => match v with | .inl w => Stp g R Q w | .inr _ => True) (fun x : Int => -1 ≤ x ∧ x < 40 ∧ ∀ k : Nat, x < (k : Int) → k < 40 → rBool (g k) 0 = false) (fun x => (x + 1).toNat) (fun x hx => ?_) _ ?_) (fun v hv => hv)
    · obtain ⟨h1, h2, hb⟩ := hx
      refine D.test (fun e => ?_) (fun _ => D.ret trivial)
      have e := iLe_iff.1 e
      obtain ⟨i, rfl⟩ : ∃ j : Nat, x = j := ⟨x.toNat, by omega⟩
      have hi : i < 40 := by omega
      have hin : iIn (i : Int) (rLen ((List.range 40).map g)) = true := by rw [len_map]; exact decide_eq_true ⟨by omega, by omega⟩
      refine D.tt hin (D.test (fun e2 => D.ret ?_) (fun e2 => D.tt hin (D.tt (bimp_2 _ (by rw [len_map]; exact decide_eq_true (by omega))) ?_)))
      · have e2 : bNot (rBool (rAt ((List.range 40).map g) (i : Int)) 0) = true := e2
        rw [rat_map g i hi] at e2
        show (-1 ≤ iSub .i64 (i : Int) 1 ∧ iSub .i64 (i : Int) 1 < 40 ∧ ∀ k : Nat, iSub .i64 (i : Int) 1 < (k : Int) → k < 40 → rBool (g k) 0 = false) ∧ (iSub .i64 (i : Int) 1 + 1).toNat < ((i : Int) + 1).toNat
        rw [iSub_in (by omega) (by omega)]
        refine ⟨⟨by omega, by omega, fun k hk hk2 => ?_⟩, by omega⟩
        by_cases hki : k = i
        · subst hki; exact bnot_t e2
        · exact hb k (by omega) hk2
      · have e2 : bNot (rBool (rAt ((List.range 40).map g) (i : Int)) 0) = false := e2
        rw [rat_map g i hi] at e2
        refine D.opt (q := fun _ => True) (fun _ => settled_any _ ?_) (fun _ => trivial) (fun b _ => D.test (fun e3 => D.tt hin (D.ret ?_)) (fun _ => D.ret (Or.inr (Or.inl rfl))))
        · unfold rCut; simp; omega
        · show Stp g R Q ([], [[.str (rStr (rAt ((List.range 40).map g) (i : Int)) 5)]])
          rw [rat_map g i hi]
          exact Or.inr (Or.inr ⟨i, rfl, hi, bnot_f e2, Or.inr (Or.inl ⟨by omega, fun k hk hk2 => hb k (by omega) hk2⟩)⟩)
    · rw [len_map]
      have e39 : iSub .i64 40 1 = 39 := rfl
      rw [e39]
      exact ⟨by omega, by omega, fun k hk hk2 => by omega⟩
  refine D.bnd (outdated_val g R Q hR) (fun r hr => ?_)
  refine D.test (fun e => ?_) (fun _ => D.ret (Or.inr (Or.inl rfl)))
  rcases hr with rfl | ⟨j, rfl, h1, h2, h3⟩
  · have := iLe_iff.1 e; omega
  · refine D.tt (by rw [len_map]; exact decide_eq_true ⟨by omega, by omega⟩) (D.ret ?_)
    show Stp g R Q ([], [[.str (rStr (rAt ((List.range 40).map g) (j : Int)) 5)]])
    rw [rat_map g j (by omega)]
    exact Or.inr (Or.inr ⟨j, rfl, by omega, h3, Or.inr (Or.inr ⟨h1, h2⟩)⟩)
theorem clamp_nat (a b : Int) (hb : 0 ≤ b) : ∃ n : Nat, iMin (iMax a 0) b = (n : Int) ∧ (n : Int) ≤ b ∧ (∀ c : Int, 0 ≤ c → c < (n : Int) → c < a) := by
  have h : 0 ≤ iMin (iMax a 0) b ∧ iMin (iMax a 0) b ≤ b ∧ ∀ c : Int, 0 ≤ c → c < iMin (iMax a 0) b → c < a := by
    unfold iMin iMax
    split <;> split <;> refine ⟨by omega, by omega, fun c h1 h2 => by omega⟩
  refine ⟨(iMin (iMax a 0) b).toNat, by omega, by omega, fun c h1 h2 => h.2.2 c h1 (by omega)⟩
/-- What Plan says, of an ordered set. -/
theorem plan_val (a0 : Row) (ha : Br a0) (l : Rows) (hl : Brs l) (now : Int) (hp : rBool a0 16 = false) : ∃ R Q : Nat, R ≤ 40 ∧ (R : Int) = iMin (iMax (rInt a0 13) 0) 40 ∧ (Q : Int) = iMin (iMax (rInt a0 14) 0) (iMin (iMax (rInt a0 13) 0) 40) ∧ (∀ c : Int, 0 ≤ c → c < (R : Int) → c < rInt a0 13) ∧
    D (fun k => (statefulset_Plan.f k a0 l now).eval) (Stp (slt a0 l now (hsh (eo 37 a0 18))) R Q) := by
  obtain ⟨R, h1, h2, h3⟩ := clamp_nat (rInt a0 13) 40 (by decide)
  obtain ⟨Q, g1, g2, g3⟩ := clamp_nat (rInt a0 14) (iMin (iMax (rInt a0 13) 0) 40) (by rw [h1]; omega)
  refine ⟨R, Q, by omega, h1.symm, g1.symm, h3, ?_⟩
  refine D.test (fun _ => D.ret (Or.inr (Or.inl rfl))) (fun _ => ?_)
  refine D.bnd (q := fun v => v = (List.range 40).map (slt a0 l now (hsh (eo 37 a0 18)))) ?_ (fun r hr => ?_)
  · have := slots_val (et 41 a0) (Br.eta ha _) l hl now
    exact this
  subst hr
  refine D.bnd (q := fun v => v = (iMin (iMax (rInt a0 13) 0) 40, iMin (iMax (rInt a0 14) 0) (iMin (iMax (rInt a0 13) 0) 40))) (D.ret rfl) (fun r hr => ?_)
  subst hr
  refine D.test (fun e => by rw [hp] at e; cases e) (fun _ => ?_)
  refine D.bnd (q := Stp (slt a0 l now (hsh (eo 37 a0 18))) R Q) ?_ (fun r hr => D.ret hr)
  show D (fun k => (statefulset_ordered.f k ((List.range 40).map (slt a0 l now (hsh (eo 37 a0 18)))) (iMin (iMax (rInt a0 13) 0) 40) (iMin (iMax (rInt a0 14) 0) (iMin (iMax (rInt a0 13) 0) 40))).eval) _
  rw [g1, h1]
  exact ordered_val _ R Q (by omega)
/-- A slot that has a pod, and the reference's row. -/
theorem slt_pod {a0 : Row} {l : Rows} {now : Int} {h : ByteArray} {i : Nat} (e : rBool (slt a0 l now h i) 0 = true) : ∃ p, fnd a0 l (nmc (rStr a0 2) i) = some p ∧ slt a0 l now h i = srow a0 now h p ∧ prw a0 l i = [.slice 61 [et 61 p] (.fullq false)] := by
  cases hf : fnd a0 l (nmc (rStr a0 2) i) with
  | none => unfold slt at e; rw [hf] at e; cases e
  | some p => exact ⟨p, rfl, by unfold slt; rw [hf], by unfold prw; rw [hf]⟩
theorem slt_none {a0 : Row} {l : Rows} {now : Int} {h : ByteArray} {i : Nat} (e : rBool (slt a0 l now h i) 0 = false) : prw a0 l i = z54 := by
  cases hf : fnd a0 l (nmc (rStr a0 2) i) with
  | none => unfold prw; rw [hf]
  | some p => unfold slt at e; rw [hf] at e; cases e
theorem clamp_eq47 (a : Int) : ref33_clamp.v a 1000000000000 = pod_clamp.v a := by
  unfold ref33_clamp.v pod_clamp.v iMin iMax
  cases h1 : iLt a 0 with
  | true =>
    have := iLt_iff.1 h1
    simp only [cond_true]
    repeat' split
    all_goals first | rfl | omega
  | false =>
    have := of_decide_eq_false h1
    cases h2 : iLt 1000000000000 a with
    | true =>
      have := iLt_iff.1 h2
      simp only [cond_true, cond_false]
      repeat' split
      all_goals first | rfl | omega
    | false =>
      have := of_decide_eq_false h2
      simp only [cond_false]
      repeat' split
      all_goals first | rfl | omega
theorem avail_eq47 (p : Row) (a b : Int) : ref33_Available.v p a b = pod_Available.v p a b := by
  unfold ref33_Available.v pod_Available.v
  rw [clamp_eq47, clamp_eq47, clamp_eq47]
  show bIte (bIte (pod_Active.v (et 61 p)) (rBool p 24) false) _ false = bIte (bIte (pod_Active.v (et 61 p)) (rBool p 24) false) _ false
  cases hc : bIte (pod_Active.v (et 61 p)) (rBool p 24) false with
  | true =>
    have e : bIte (ref33_Active.v (et 61 p)) (rBool p 24) false = true := hc
    simp only [hc, e, cond_true]
  | false => rfl
theorem iSum_le {a b : Int} (ha : 0 ≤ a ∧ a ≤ 1) (hb : 0 ≤ b ∧ b ≤ 1) (h : a + b ≤ 1) : iLt 1 (iAdd .i64 a b) = false := by
  rw [iAdd_in (by omega) (by omega)]; exact decide_eq_false (by omega)
theorem order_inner (a0 : Row) (l : Rows) (now : Int) (h : ByteArray) (c : Nat) (hc : c < 40) (hb : ∀ k, k < c → rBool (slt a0 l now h k) 0 = true ∧ rBool (slt a0 l now h k) 1 = true) :
    D (fun k => iter (law47_StatefulsetOrder.s13 k now [[.int .i64 (c : Int)]] ((List.range 40).map (prw a0 l)) 0 (et 41 (et 41 a0))) k 0) (fun v => v = .inr ()) := by
  refine D.loop (fun x : Int => ∃ i : Nat, x = (i : Int) ∧ i ≤ c) (fun x => c - x.toNat) _ (fun x hx => ?_) _ ⟨0, rfl, Nat.zero_le _⟩
  obtain ⟨i, rfl, hi⟩ := hx
  refine D.tt rfl ?_
  by_cases hlt : i < c
  · obtain ⟨p, hf, hs, hpr⟩ := slt_pod (hb i hlt).1
    have hav := (hb i hlt).2
    rw [hs] at hav
    have hat := rat_map (prw a0 l) i (by omega)
    rw [hpr] at hat
    have hin : iIn (i : Int) (rLen ((List.range 40).map (prw a0 l))) = true := by rw [len_map]; exact decide_eq_true ⟨by omega, by omega⟩
    refine D.tt (iLt_iff.2 (by show (i : Int) < (c : Int); omega)) (D.tt hin (D.tt (bimp_2 _ hin) (D.tt (bimp_2 _ ?_) ?_)))
    · show iIn 0 (rLen (rSl (rAt ((List.range 40).map (prw a0 l)) (i : Int)) 0)) = true
      rw [hat]; rfl
    refine D.opt (q := fun v => v = true) (fun _ => ?_) (fun e => ?_) (fun b hb2 => ?_)
    · refine D.of_eq (G := fun k => (ref33_Available.f k (et 61 (et 61 p)) (rInt (et 41 (et 41 a0)) 15) now).eval) (fun k => by rw [hat]; rfl) ?_
      refine D.mono (ref33_Available.val _ _ _) (fun v hv => ?_)
      rw [hv.1, avail_eq47]; exact hav
    · rw [hat] at e; cases e
    · subst hb2
      refine D.test (fun e => ?_) (fun _ => D.ret ?_)
      · have e : bIte (iEq (rLen (rSl (rAt ((List.range 40).map (prw a0 l)) (i : Int)) 0)) 0) true (bNot true) = true := e
        rw [hat] at e; cases e
      · show (∃ j : Nat, iAdd .i64 (i : Int) 1 = (j : Int) ∧ j ≤ c) ∧ c - (iAdd .i64 (i : Int) 1).toNat < c - ((i : Int)).toNat
        rw [iAdd_in (by omega) (by omega)]
        exact ⟨⟨i + 1, by omega, by omega⟩, by omega⟩
  · exact D.test (fun e => by have : (i : Int) < (c : Int) := iLt_iff.1 e; omega) (fun _ => D.ret rfl)
theorem order_loop (a0 : Row) (l : Rows) (now : Int) (h : ByteArray) (cr : Rows) (hcr : cr = [] ∨ ∃ c : Nat, cr = [[.int .i64 (c : Int)]] ∧ c < 40 ∧ (c : Int) < rInt a0 13 ∧ rBool (slt a0 l now h c) 0 = false ∧ ∀ k, k < c → rBool (slt a0 l now h k) 0 = true ∧ rBool (slt a0 l now h k) 1 = true) :
    D (fun k => iter (law47_StatefulsetOrder.s8 k now cr ((List.range 40).map (prw a0 l)) (et 41 a0)) k 0) (fun v => v = .inr ()) := by
  rcases hcr with rfl | ⟨c, rfl, hc, hrep, h0, hb⟩
  · refine D.loop (fun x : Int => x = 0) (fun _ => 0) _ (fun x hx => ?_) 0 rfl
    subst hx
    exact D.test (fun e => by cases e) (fun _ => D.ret rfl)
  · have hpr := slt_none h0
    have hat := rat_map (prw a0 l) c hc
    rw [hpr] at hat
    refine D.loop (fun x : Int => x = 0 ∨ x = 1) (fun x => 1 - x.toNat) _ (fun x hx => ?_) 0 (Or.inl rfl)
    rcases hx with rfl | rfl
    · refine D.tt rfl (D.tt rfl (D.tt (bimp_2 _ rfl) (D.tt (bimp_2 _ rfl) (D.tt (bimp_2 _ rfl) (D.tt (bimp_2 _ ?_) (D.test (fun e => ?_) (fun _ => ?_)))))))
      · show iIn (c : Int) (rLen ((List.range 40).map (prw a0 l))) = true
        rw [len_map]; exact decide_eq_true ⟨by omega, by omega⟩
      · have e : bIte (bIte (bIte (iLt (c : Int) 0) true (iLe (rLen ((List.range 40).map (prw a0 l))) (c : Int))) true (iLe (rInt a0 13) (c : Int))) true (iLt 0 (rLen (rSl (rAt ((List.range 40).map (prw a0 l)) (c : Int)) 0))) = true := e
        rw [hat, len_map, show iLt (c : Int) 0 = false from decide_eq_false (by omega), show iLe 40 (c : Int) = false from decide_eq_false (by omega), show iLe (rInt a0 13) (c : Int) = false from decide_eq_false (by omega)] at e
        cases e
      · refine D.cas (order_inner a0 l now h c hc hb) (fun r hr => by cases hr) (fun r _ => D.ret ?_)
        show (iAdd .i64 0 1 = 0 ∨ iAdd .i64 0 1 = 1) ∧ 1 - (iAdd .i64 0 1).toNat < 1 - (0 : Int).toNat
        rw [iAdd_in (by decide) (by decide)]; exact ⟨Or.inr rfl, by decide⟩
    · exact D.test (fun e => by cases e) (fun _ => D.ret rfl)
theorem heavy_any (a0 : Row) (l : Rows) (hl : Brs l) : D (fun k => (law47_heavy.f k a0 l).eval) (fun _ => True) := D.mono (law47_heavy.val a0 l hl) (fun _ _ => trivial)
theorem awake_true : (law47_awake.f 1000).eval = some true := by kernel_rfl
theorem lv_true : D (fun k => (law47_lv.f k).eval) (fun v => v = true) := ⟨true, rfl, 0, fun k _ => awake_true⟩
theorem law47_StatefulsetOrder.true_ (a0 : Row) (l : Rows) (now : Int) (ha : Br a0) (hl : Brs l) : D (fun k => (law47_StatefulsetOrder.f k a0 l now).eval) (fun v => v = true) := by
  refine D.bnd (heavy_any _ _ hl) (fun r0 _ => D.test (fun _ => D.bnd lv_true (fun r hr => D.ret hr)) (fun e => ?_))
  have hp : rBool a0 16 = false := or_r e
  obtain ⟨R, Q, hR, hR1, _, hR2, hD⟩ := plan_val (et 41 a0) (Br.eta ha _) l hl now hp
  refine D.bnd hD (fun v hv => ?_)
  have hlen : iLt 1 (iAdd .i64 (rLen v.1) (rLen v.2)) = false := by
    rcases hv with ⟨c, rfl, _⟩ | rfl | ⟨j, rfl, _⟩ <;> rfl
  refine D.test (fun e => by rw [hlen] at e; cases e) (fun _ => ?_)
  refine D.bnd (q := fun v => v = (List.range 40).map (prw a0 l)) (pods_val (et 41 a0) (Br.eta ha _) l hl) (fun r hr => ?_)
  subst hr
  refine D.cas (order_loop a0 l now (hsh (eo 37 (et 41 a0) 18)) v.1 ?_) (fun r hr => by cases hr) (fun r _ => D.bnd lv_true (fun r hr => D.ret hr))
  rcases hv with ⟨c, rfl, h1, h2, h3⟩ | rfl | ⟨j, rfl, _⟩
  · exact Or.inr ⟨c, rfl, by omega, hR2 c (by omega) (by omega), h2, h3⟩
  · exact Or.inl rfl
  · exact Or.inl rfl
end
end Go.Proofs.YtolackmpfnndhaaGreatDoor.Ev
