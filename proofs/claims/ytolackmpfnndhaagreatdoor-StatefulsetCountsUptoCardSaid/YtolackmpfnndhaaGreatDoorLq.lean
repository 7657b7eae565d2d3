/- Stateful sets: what Plan answers, exactly: the program's side. Conditions: stated at each. -/
import Derived.Test.YtolackmpfnndhaaGreatDoorLp
namespace Go.Proofs.YtolackmpfnndhaaGreatDoor.Ev
open Go Go.RowKit
set_option linter.unusedVariables false
set_option maxRecDepth 100000
noncomputable section
theorem rat_map (g : Nat → Row) (i : Nat) (hi : i < 40) : rAt ((List.range 40).map g) (i : Int) = g i := by
  rw [rAt_nat, List.getD_eq_getElem?_getD, List.getElem?_map, List.getElem?_range hi]; rfl
theorem len_map (g : Nat → Row) : rLen ((List.range 40).map g) = 40 := by unfold rLen; simp
theorem clamp_nat (a b : Int) (hb : 0 ≤ b) : ∃ n : Nat, iMin (iMax a 0) b = (n : Int) ∧ (n : Int) ≤ b ∧ (∀ c : Int, 0 ≤ c → c < (n : Int) → c < a) := by
  have h : 0 ≤ iMin (iMax a 0) b ∧ iMin (iMax a 0) b ≤ b ∧ ∀ c : Int, 0 ≤ c → c < iMin (iMax a 0) b → c < a := by
    unfold iMin iMax
    split <;> split <;> refine ⟨by omega, by omega, fun c h1 h2 => by omega⟩
  refine ⟨(iMin (iMax a 0) b).toNat, by omega, by omega, fun c h1 h2 => h.2.2 c h1 (by omega)⟩
theorem slt_pod {a0 : Row} {l : Rows} {now : Int} {h : ByteArray} {i : Nat} (e : rBool (slt a0 l now h i) 0 = true) : ∃ p, fnd a0 l (nmc (rStr a0 2) i) = some p ∧ slt a0 l now h i = srow a0 now h p ∧ prw a0 l i = [.slice 61 [et 61 p] (.fullq false)] := by
  cases hf : fnd a0 l (nmc (rStr a0 2) i) with
  | none => unfold slt at e; rw [hf] at e; cases e
  | some p => exact ⟨p, rfl, by unfold slt; rw [hf], by unfold prw; rw [hf]⟩
theorem slt_none {a0 : Row} {l : Rows} {now : Int} {h : ByteArray} {i : Nat} (e : rBool (slt a0 l now h i) 0 = false) : prw a0 l i = z54 := by
  cases hf : fnd a0 l (nmc (rStr a0 2) i) with
  | none => unfold prw; rw [hf]
  | some p => unfold slt at e; rw [hf] at e; cases e
theorem clamp_eq47 (a : Int) : ref33_clamp.v a 1000000000000 = pod_clamp.v a := by
  unfold ref33_clamp.v pod_clamp.v iMin iMax
  cases h1 : iLt a 0 with
  | true =>
    have := iLt_iff.1 h1
    simp only [cond_true]
    repeat' split
    all_goals first | rfl | omega
  | false =>
    have := of_decide_eq_false h1
    cases h2 : iLt 1000000000000 a with
    | true =>
      have := iLt_iff.1 h2
      simp only [cond_true, cond_false]
      repeat' split
      all_goals first | rfl | omega
    | false =>
      have := of_decide_eq_false h2
      simp only [cond_false]
      repeat' split
      all_goals first | rfl | omega
theorem avail_eq47 (p : Row) (a b : Int) : ref33_Available.v p a b = pod_Available.v p a b := by
  unfold ref33_Available.v pod_Available.v
  rw [clamp_eq47, clamp_eq47, clamp_eq47]
  show bIte (bIte (pod_Active.v (et 61 p)) (rBool p 24) false) _ false = bIte (bIte (pod_Active.v (et 61 p)) (rBool p 24) false) _ false
  cases hc : bIte (pod_Active.v (et 61 p)) (rBool p 24) false with
  | true =>
    have e : bIte (ref33_Active.v (et 61 p)) (rBool p 24) false = true := hc
    simp only [hc, e, cond_true]
  | false => rfl
theorem key_eq47 {a0 p : Row} {n : ByteArray} (h : rStr p 2 = n) : ∃ K, meta_KeyOf.v (et 27 (et 61 p)) = sCat K n ∧ ref13_KeyOf.v (et 27 (et 61 p)) = sCat K n := by
  subst h
  exact ⟨sCat (sCat (sCat (rStr p 0) (bs [47])) (rStr p 1)) (bs [47]), by kernel_rfl, by kernel_rfl⟩
/-- The highest number below n, not below lo, of which p holds. -/
def hi (p : Nat → Bool) (lo : Nat) : Nat → Option Nat
  | 0 => none
  | n + 1 => bif decide (lo ≤ n) && p n then some n else hi p lo n
theorem hi_none {p : Nat → Bool} {lo : Nat} : ∀ {n : Nat}, (∀ k, lo ≤ k → k < n → p k = false) → hi p lo n = none
  | 0, _ => rfl
  | n + 1, h => by
    have e : (decide (lo ≤ n) && p n) = false := by
      by_cases hl : lo ≤ n
      · rw [h n hl (by omega), Bool.and_false]
      · rw [decide_eq_false hl, Bool.false_and]
    unfold hi
    rw [e]
    exact hi_none (fun k a b => h k a (by omega))
theorem hi_some {p : Nat → Bool} {lo i : Nat} (hl : lo ≤ i) (hp : p i = true) : ∀ {n : Nat}, i < n → (∀ k, i < k → k < n → p k = false) → hi p lo n = some i
  | 0, h, _ => absurd h (Nat.not_lt_zero _)
  | n + 1, h, hb => by
    unfold hi
    by_cases e : i = n
    · subst e; rw [decide_eq_true hl, hp]; rfl
    · have h0 := hb n (by omega) (by omega)
      rw [h0, Bool.and_false]
      exact hi_some hl hp (by omega) (fun k a b => hb k a (by omega))
theorem hi_is {p : Nat → Bool} {lo j : Nat} : ∀ {n : Nat}, hi p lo n = some j → lo ≤ j ∧ j < n ∧ p j = true
  | 0, h => by cases h
  | n + 1, h => by
    unfold hi at h
    cases e : (decide (lo ≤ n) && p n) with
    | true =>
      rw [e] at h
      injection h with h
      subst h
      have := Bool.and_eq_true_iff.1 e
      exact ⟨of_decide_eq_true this.1, by omega, this.2⟩
    | false =>
      rw [e] at h
      have := hi_is (n := n) h
      exact ⟨this.1, by omega, this.2.2⟩
def oI : Option Nat → Int
  | none => -1
  | some i => (i : Int)
/-- There is a pod that is not updated. -/
def pO (g : Nat → Row) (k : Nat) : Bool := rBool (g k) 0 && !rBool (g k) 2
def cr (g : Nat → Row) (R n : Nat) : Rows := ((List.range n).filter fun i : Nat => decide (i < R) && !rBool (g i) 0).map fun i : Nat => [V.int .i64 (i : Int)]
def rm (g : Nat → Row) (R n : Nat) : Rows := ((List.range n).filter fun i => rBool (g i) 0 && !rBool (g i) 4 && (decide (R ≤ i) || rBool (g i) 3)).map fun i => [.str (rStr (g i) 5)]
def avs (g : Nat → Row) (lo n : Nat) : Prop := ∀ k, lo ≤ k → k < n → rBool (g k) 0 = true → rBool (g k) 1 = true
def one1 (g : Nat → Row) (c : Nat) : Rows × Rows := bif rBool (g c) 0 then (bif rBool (g c) 3 && !rBool (g c) 4 then ([], [[.str (rStr (g c) 5)]]) else ([], [])) else ([[.int .i64 (c : Int)]], [])
open Classical in
def two1 (g : Nat → Row) (j : Nat) : Rows × Rows := if rBool (g j) 4 = false ∧ avs g 0 j then ([], [[.str (rStr (g j) 5)]]) else ([], [])
def thr1 (g : Nat → Row) : Option Nat → Rows × Rows
  | none => ([], [])
  | some j => ([], [[.str (rStr (g j) 5)]])
/-- The step of an ordered set. -/
def ordS (g : Nat → Row) (R Q : Nat) : Rows × Rows := match (List.range R).find? fun k => !(rBool (g k) 0 && rBool (g k) 1) with
  | some c => one1 g c
  | none => match hi (fun k => rBool (g k) 0) R 40 with
    | some j => two1 g j
    | none => thr1 g (hi (pO g) Q R)
open Classical in
/-- The steps of a parallel set. -/
def parS (g : Nat → Row) (R Q : Nat) : Rows × Rows := if 0 < (cr g R 40).length + (rm g R 40).length then (cr g R 40, rm g R 40) else match hi (pO g) Q R with
  | none => ([], [])
  | some j => if rBool (g j) 4 = false ∧ avs g (j + 1) R then ([], [[.str (rStr (g j) 5)]]) else ([], [])
theorem ord_1 {g : Nat → Row} {R Q c : Nat} (hc : c < R) (h : (rBool (g c) 0 && rBool (g c) 1) = false) (hb : ∀ k, k < c → rBool (g k) 0 = true ∧ rBool (g k) 1 = true) : ordS g R Q = one1 g c := by
  have e : ((List.range R).find? fun k => !(rBool (g k) 0 && rBool (g k) 1)) = some c := by
    rw [List.find?_range_eq_some]
    refine ⟨by rw [h]; rfl, List.mem_range.2 hc, fun j hj => ?_⟩
    obtain ⟨h1, h2⟩ := hb j hj
    rw [h1, h2]; rfl
  unfold ordS
  rw [e]
theorem ord_n {g : Nat → Row} {R Q : Nat} (hb : ∀ k, k < R → rBool (g k) 0 = true ∧ rBool (g k) 1 = true) : ordS g R Q = match hi (fun k => rBool (g k) 0) R 40 with
    | some j => two1 g j
    | none => thr1 g (hi (pO g) Q R) := by
  have e : ((List.range R).find? fun k => !(rBool (g k) 0 && rBool (g k) 1)) = none := by
    rw [List.find?_eq_none]
    intro j hj
    obtain ⟨h1, h2⟩ := hb j (List.mem_range.1 hj)
    rw [h1, h2]; decide
  unfold ordS
  rw [e]
theorem any65 (g : Nat → Row) (n : Nat) (hn : n ≤ 40) : D (fun k => (statefulset_settled.f k (((List.range 40).map g).take n)).eval) (fun v => v = true ↔ avs g 0 n) := by
  have hlen : rLen (((List.range 40).map g).take n) = (n : Int) := by unfold rLen; simp; omega
  have hat : ∀ i, i < n → rAt (((List.range 40).map g).take n) (i : Int) = g i := fun i hi => by
    rw [rAt_nat, List.getD_eq_getElem?_getD, List.getElem?_take, if_pos hi, List.getElem?_map, List.getElem?_range (by omega)]; rfl
  refine D.bnd (q := fun v => v = false ↔ avs g 0 n) (D.bnd (q := fun v => iLe 0 v = false ↔ avs g 0 n) (D.cas (q := fun v => match v with | .inl w => iLe 0 w = true ∧ ¬ avs g 0 n | .inr _ => avs g 0 n) ?_ (fun r hr => D.ret ?_) (fun r hr => D.ret ?_)) (fun r hr => D.ret hr)) (fun r hr => D.ret ?_)
  · show D (fun k => iter (slices_IndexFunc_statefulset_slot_statefulset_slot_c65.s2 k (((List.range 40).map g).take n) (rLen (((List.range 40).map g).take n))) k 0) _
    rw [hlen]
    refine D.mono (D.loop (p := fun v => match v with | .inl w => iLe 0 w = true ∧ ¬ avs g 0 n | .inr _ => avs g 0 n) (fun x : Int => ∃ i : Nat, x = (i : Int) ∧ i ≤ n ∧ avs g 0 i) (fun x => n - x.toNat) (fun x hx => ?_) 0 ⟨0, rfl, Nat.zero_le _, fun k _ hk => by omega⟩) (fun v hv => hv)
    obtain ⟨i, rfl, hi, hb⟩ := hx
    by_cases h : i < n
    · refine D.tt (ilt_nat h) (D.tt (by rw [hlen]; exact iin_nat h) (D.bnd (q := fun v => v = bIte (rBool (rAt (((List.range 40).map g).take n) (i : Int)) 0) (bNot (rBool (rAt (((List.range 40).map g).take n) (i : Int)) 1)) false) (D.ret rfl) (fun b hb2 => ?_)))
      rw [hat i h] at hb2
      subst hb2
      refine D.test (fun e => D.ret ?_) (fun e => D.ret ?_)
      · refine ⟨decide_eq_true (by omega), fun hh => ?_⟩
        have h1 := and_l e
        have h2 := bnot_t (and_r e)
        rw [hh i (Nat.zero_le _) h h1] at h2
        cases h2
      · show (∃ j : Nat, iAdd .i64 (i : Int) 1 = (j : Int) ∧ j ≤ n ∧ avs g 0 j) ∧ n - (iAdd .i64 (i : Int) 1).toNat < n - ((i : Int)).toNat
        rw [iAdd_in (by omega) (by omega)]
        refine ⟨⟨i + 1, by omega, by omega, fun k _ hk ht => ?_⟩, by omega⟩
        by_cases hki : k = i
        · subst hki
          have e : bIte (rBool (g k) 0) (bNot (rBool (g k) 1)) false = false := e
          rw [ht] at e
          exact bnot_f e
        · exact hb k (Nat.zero_le _) (by omega) ht
    · have : i = n := by omega
      subst this
      exact D.test (fun e => by rw [show iLt (i : Int) (i : Int) = false from ilt_nat' h] at e; cases e) (fun _ => D.ret hb)
  · exact ⟨fun h => absurd (hr.1.symm.trans h) (by decide), fun h => absurd h hr.2⟩
  · exact ⟨fun _ => hr, fun _ => rfl⟩
  · show bNot r = true ↔ _
    rw [← hr]
    cases r <;> simp [bNot]
theorem any50 (g : Nat → Row) (m n : Nat) (hm : m ≤ n) (hn : n ≤ 40) : D (fun k => (slices_ContainsFunc_statefulset_slot_statefulset_slot_c50.f k (rCut ((List.range 40).map g) (m : Int) (n : Int))).eval) (fun v => v = false ↔ ∀ k, m ≤ k → k < n → rBool (g k) 1 = true) := by
  have hcut : rCut ((List.range 40).map g) (m : Int) (n : Int) = (((List.range 40).map g).take n).drop m := rfl
  rw [hcut]
  obtain ⟨L, hL⟩ : ∃ L, L = (((List.range 40).map g).take n).drop m := ⟨_, rfl⟩
  have hlen : rLen L = ((n - m : Nat) : Int) := by rw [hL]; unfold rLen; simp; omega
  have hat : ∀ i, i < n - m → rAt L (i : Int) = g (m + i) := fun i hi => by
    rw [hL, rAt_nat, List.getD_eq_getElem?_getD, List.getElem?_drop, List.getElem?_take, if_pos (by omega), List.getElem?_map, List.getElem?_range (by omega)]; rfl
  rw [← hL]
  refine D.bnd (q := fun v => iLe 0 v = false ↔ ∀ k, m ≤ k → k < n → rBool (g k) 1 = true) (D.cas (q := fun v => match v with | .inl w => iLe 0 w = true ∧ ¬ ∀ k, m ≤ k → k < n → rBool (g k) 1 = true | .inr _ => ∀ k, m ≤ k → k < n → rBool (g k) 1 = true) ?_ (fun r hr => D.ret ?_) (fun r hr => D.ret ?_)) (fun r hr => D.ret hr)
  · show D (fun k => iter (slices_IndexFunc_statefulset_slot_statefulset_slot_c50.s2 k L (rLen L)) k 0) _
    rw [hlen]
    refine D.mono (D.loop (p := fun v => match v with | .inl w => iLe 0 w = true ∧ ¬ ∀ k, m ≤ k → k < n → rBool (g k) 1 = true | .inr _ => ∀ k, m ≤ k → k < n → rBool (g k) 1 = true) (fun x : Int => ∃ i : Nat, x = (i : Int) ∧ i ≤ n - m ∧ ∀ k, m ≤ k → k < m + i → rBool (g k) 1 = true) (fun x => n - m - x.toNat) (fun x hx => ?_) 0 ⟨0, rfl, Nat.zero_le _, fun k h1 h2 => by omega⟩) (fun v hv => hv)
    obtain ⟨i, rfl, hi, hb⟩ := hx
    by_cases h : i < n - m
    · refine D.tt (ilt_nat h) (D.tt (by rw [hlen]; exact iin_nat h) (D.bnd (q := fun v => v = bNot (rBool (rAt L (i : Int)) 1)) (D.ret rfl) (fun b hb2 => ?_)))
      rw [hat i h] at hb2
      subst hb2
      refine D.test (fun e => D.ret ?_) (fun e => D.ret ?_)
      · refine ⟨decide_eq_true (by omega), fun hh => ?_⟩
        have h2 := bnot_t e
        rw [hh (m + i) (by omega) (by omega)] at h2
        cases h2
      · show (∃ j : Nat, iAdd .i64 (i : Int) 1 = (j : Int) ∧ j ≤ n - m ∧ ∀ k, m ≤ k → k < m + j → rBool (g k) 1 = true) ∧ n - m - (iAdd .i64 (i : Int) 1).toNat < n - m - ((i : Int)).toNat
        rw [iAdd_in (by omega) (by omega)]
        refine ⟨⟨i + 1, by omega, by omega, fun k h1 h2 => ?_⟩, by omega⟩
        by_cases hki : k = m + i
        · subst hki; exact bnot_f e
        · exact hb k h1 (by omega)
    · exact D.test (fun e => by rw [show iLt (i : Int) ((n - m : Nat) : Int) = false from ilt_nat' h] at e; cases e) (fun _ => D.ret (fun k h1 h2 => hb k h1 (by omega)))
  · exact ⟨fun h => absurd (hr.1.symm.trans h) (by decide), fun h => absurd h hr.2⟩
  · exact ⟨fun _ => hr, fun _ => rfl⟩
theorem outdated_eq (g : Nat → Row) (R Q : Nat) (hR : R ≤ 40) : D (fun k => (statefulset_outdated.f k ((List.range 40).map g) (R : Int) (Q : Int)).eval) (fun v => v = oI (hi (pO g) Q R)) := by
  refine D.cas (q := fun v => match v with | .inl w => w = oI (hi (pO g) Q R) | .inr _ => hi (pO g) Q R = none) ?_ (fun r hr => D.ret hr) (fun r hr => D.ret (by rw [show hi (pO g) Q R = none from hr]; rfl))
  refine D.mono (D.loop (p := fun v => match v with | .inl w => w = oI (hi (pO g) Q R) | .inr _ => hi (pO g) Q R = none) (fun x : Int => ∃ n : Nat, x = (n : Int) - 1 ∧ n ≤ R ∧ ∀ k, n ≤ k → k < R → pO g k = false) (fun x => (x + 1).toNat) (fun x hx => ?_) _ ⟨R, iSub_in (by omega) (by omega), Nat.le_refl _, fun k h1 h2 => by omega⟩) (fun v hv => hv)
  obtain ⟨n, rfl, hn, hb⟩ := hx
  refine D.test (fun e => ?_) (fun e => D.ret ?_)
  · have e := iLe_iff.1 e
    obtain ⟨i, rfl⟩ : ∃ j : Nat, n = j + 1 := ⟨n - 1, by omega⟩
    have e1 : ((i + 1 : Nat) : Int) - 1 = (i : Int) := by omega
    rw [e1] at e ⊢
    have hi40 : i < 40 := by omega
    have hin : iIn (i : Int) (rLen ((List.range 40).map g)) = true := by rw [len_map]; exact decide_eq_true ⟨by omega, by omega⟩
    have ep : bIte (rBool (rAt ((List.range 40).map g) (i : Int)) 0) (bNot (rBool (rAt ((List.range 40).map g) (i : Int)) 2)) false = pO g i := by
      rw [rat_map g i hi40, bIte_and]; rfl
    refine D.tt hin (D.tt (bimp_2 _ hin) (D.test (fun e2 => D.ret ?_) (fun e2 => D.ret ?_)))
    · show (i : Int) = _
      rw [hi_some (by omega) (ep.symm.trans e2) (by omega) (fun k h1 h2 => hb k (by omega) h2)]; rfl
    · show (∃ n' : Nat, iSub .i64 (i : Int) 1 = (n' : Int) - 1 ∧ n' ≤ R ∧ ∀ k, n' ≤ k → k < R → pO g k = false) ∧ (iSub .i64 (i : Int) 1 + 1).toNat < ((i : Int) + 1).toNat
      rw [iSub_in (by omega) (by omega)]
      refine ⟨⟨i, rfl, by omega, fun k h1 h2 => ?_⟩, by omega⟩
      by_cases hki : k = i
      · subst hki; exact ep.symm.trans e2
      · exact hb k (by omega) h2
  · have e := of_decide_eq_false e
    exact hi_none (fun k h1 h2 => hb k (by omega) h2)
theorem ordered_eq (g : Nat → Row) (R Q : Nat) (hR : R ≤ 40) : D (fun k => (statefulset_ordered.f k ((List.range 40).map g) (R : Int) (Q : Int)).eval) (fun v => v = ordS g R Q) := by
  refine D.tt (by rw [len_map]; exact decide_eq_true (by omega)) ?_
  have hcut : rCut ((List.range 40).map g) 0 (R : Int) = ((List.range 40).map g).take R := by unfold rCut; simp
  have hcl : (((List.range 40).map g).take R).length = R := by simp; omega
  have hat : ∀ i, i < R → rAt (((List.range 40).map g).take R) (i : Int) = g i := fun i hi => by
    rw [rAt_nat, List.getD_eq_getElem?_getD, List.getElem?_take, if_pos hi, List.getElem?_map, List.getElem?_range (by omega)]; rfl
  refine D.cas (q := fun v => match v with | .inl w => w = ordS g R Q | .inr _ => ∀ k, k < R → rBool (g k) 0 = true ∧ rBool (g k) 1 = true) ?_ (fun r hr => D.ret hr) (fun r hr => ?_)
  · show D (fun k => iter (statefulset_ordered.s2 k ((List.range 40).map g) (R : Int) (Q : Int) (rCut ((List.range 40).map g) 0 (R : Int)) (rLen (rCut ((List.range 40).map g) 0 (R : Int)))) k 0) _
    rw [hcut]
    have hrl : rLen (((List.range 40).map g).take R) = (R : Int) := by unfold rLen; rw [hcl]
    rw [hrl]
    refine D.mono (D.loop (p := fun v => match v with | .inl w => w = ordS g R Q | .inr _ => ∀ k, k < R → rBool (g k) 0 = true ∧ rBool (g k) 1 = true) (fun x : Int => ∃ i : Nat, x = (i : Int) ∧ i ≤ R ∧ ∀ k, k < i → rBool (g k) 0 = true ∧ rBool (g k) 1 = true) (fun x => R - x.toNat) (fun x hx => ?_) _ ⟨0, rfl, Nat.zero_le _, fun k hk => by omega⟩) (fun v hv => hv)
    obtain ⟨i, rfl, hi, hb⟩ := hx
    by_cases hlt : i < R
    · have hin : iIn (i : Int) (rLen (((List.range 40).map g).take R)) = true := by rw [hrl]; exact iin_nat hlt
      refine D.tt (ilt_nat hlt) (D.tt hin (D.test (fun e => D.ret ?_) (fun e => D.test (fun e2 => D.ret ?_) (fun e2 => ?_))))
      · have e : bNot (rBool (rAt (((List.range 40).map g).take R) (i : Int)) 0) = true := e
        rw [hat i hlt] at e
        show _ = ordS g R Q
        rw [ord_1 hlt (by rw [bnot_t e]; rfl) hb]
        unfold one1
        rw [bnot_t e]; rfl
      · have e : bNot (rBool (rAt (((List.range 40).map g).take R) (i : Int)) 0) = false := e
        have e2 : rBool (rAt (((List.range 40).map g).take R) (i : Int)) 1 = true := e2
        rw [hat i hlt] at e e2
        show (∃ j : Nat, iAdd .i64 (i : Int) 1 = (j : Int) ∧ j ≤ R ∧ ∀ k, k < j → rBool (g k) 0 = true ∧ rBool (g k) 1 = true) ∧ R - (iAdd .i64 (i : Int) 1).toNat < R - ((i : Int)).toNat
        rw [iAdd_in (by omega) (by omega)]
        refine ⟨⟨i + 1, by omega, by omega, fun k hk => ?_⟩, by omega⟩
        by_cases hki : k = i
        · subst hki; exact ⟨bnot_f e, e2⟩
        · exact hb k (by omega)
      · have e : bNot (rBool (rAt (((List.range 40).map g).take R) (i : Int)) 0) = false := e
        have e2 : rBool (rAt (((List.range 40).map g).take R) (i : Int)) 1 = false := e2
        rw [hat i hlt] at e e2
        have hone : ordS g R Q = one1 g i := ord_1 hlt (by rw [e2, Bool.and_false]) hb
        have e3 : bIte (rBool (rAt (((List.range 40).map g).take R) (i : Int)) 3) (bNot (rBool (rAt (((List.range 40).map g).take R) (i : Int)) 4)) false = (rBool (g i) 3 && !rBool (g i) 4) := by rw [hat i hlt, bIte_and]; rfl
        refine D.test (fun e4 => D.ret ?_) (fun e4 => D.ret ?_)
        · show ([], [[.str (rStr (rAt (((List.range 40).map g).take R) (i : Int)) 5)]]) = ordS g R Q
          rw [hone, hat i hlt]
          unfold one1
          rw [bnot_f e, e3.symm.trans e4]; rfl
        · show ([], []) = ordS g R Q
          rw [hone]
          unfold one1
          rw [bnot_f e, e3.symm.trans e4]; rfl
    · exact D.test (fun e => by rw [show iLt (i : Int) (R : Int) = false from ilt_nat' hlt] at e; cases e) (fun _ => D.ret (fun k hk => hb k (by omega)))
  have hr : ∀ k, k < R → rBool (g k) 0 = true ∧ rBool (g k) 1 = true := hr
  rw [ord_n hr]
  refine D.cas (q := fun v => match v with | .inl w => w = (match hi (fun k => rBool (g k) 0) R 40 with | some j => two1 g j | none => thr1 g (hi (pO g) Q R)) | .inr _ => hi (fun k => rBool (g k) 0) R 40 = none) ?_ (fun r hr => D.ret hr) (fun r hr => ?_)
  · refine D.mono (D.loop (p := fun v => match v with | .inl w => w = (match hi (fun k => rBool (g k) 0) R 40 with | some j => two1 g j | none => thr1 g (hi (pO g) Q R)) | .inr _ => hi (fun k => rBool (g k) 0) R 40 = none) (fun x : Int => ∃ n : Nat, x = (n : Int) - 1 ∧ n ≤ 40 ∧ ∀ k : Nat, n ≤ k → k < 40 → rBool (g k) 0 = false) (fun x => (x + 1).toNat) (fun x hx => ?_) _ ?_) (fun v hv => hv)
    · obtain ⟨n, rfl, hn, hb⟩ := hx
      refine D.test (fun e => ?_) (fun e => D.ret ?_)
      · have e := iLe_iff.1 e
        obtain ⟨i, rfl⟩ : ∃ j : Nat, n = j + 1 := ⟨n - 1, by omega⟩
        have e1 : ((i + 1 : Nat) : Int) - 1 = (i : Int) := by omega
        rw [e1] at e ⊢
        have hi40 : i < 40 := by omega
        have hin : iIn (i : Int) (rLen ((List.range 40).map g)) = true := by rw [len_map]; exact decide_eq_true ⟨by omega, by omega⟩
        refine D.tt hin (D.test (fun e2 => D.ret ?_) (fun e2 => D.tt hin (D.tt (bimp_2 _ (by rw [len_map]; exact decide_eq_true (by omega))) ?_)))
        · have e2 : bNot (rBool (rAt ((List.range 40).map g) (i : Int)) 0) = true := e2
          rw [rat_map g i hi40] at e2
          show (∃ n' : Nat, iSub .i64 (i : Int) 1 = (n' : Int) - 1 ∧ n' ≤ 40 ∧ ∀ k : Nat, n' ≤ k → k < 40 → rBool (g k) 0 = false) ∧ (iSub .i64 (i : Int) 1 + 1).toNat < ((i : Int) + 1).toNat
          rw [iSub_in (by omega) (by omega)]
          refine ⟨⟨i, rfl, by omega, fun k hk hk2 => ?_⟩, by omega⟩
          by_cases hki : k = i
          · subst hki; exact bnot_t e2
          · exact hb k (by omega) hk2
        · have e2 : bNot (rBool (rAt ((List.range 40).map g) (i : Int)) 0) = false := e2
          rw [rat_map g i hi40] at e2
          have hsome : hi (fun k => rBool (g k) 0) R 40 = some i := hi_some (p := fun k => rBool (g k) 0) (by omega) (bnot_f e2) hi40 (fun k h1 h2 => hb k (by omega) h2)
          have e4 : rBool (rAt ((List.range 40).map g) (i : Int)) 4 = rBool (g i) 4 := by rw [rat_map g i hi40]
          have hct : rCut ((List.range 40).map g) 0 (i : Int) = ((List.range 40).map g).take i := by unfold rCut; simp
          refine D.opt (q := fun v => rBool (g i) 4 = false → (v = true ↔ avs g 0 i)) (fun _ => ?_) (fun ed h => by rw [e4, h] at ed; cases ed) (fun b hbb => D.test (fun e3 => D.tt hin (D.ret ?_)) (fun e3 => D.ret ?_))
          · show D (fun k => (statefulset_settled.f k (rCut ((List.range 40).map g) 0 (i : Int))).eval) _
            rw [hct]
            exact D.mono (any65 g i (by omega)) (fun v hv _ => hv)
          · have e3 : bIte (bNot (rBool (rAt ((List.range 40).map g) (i : Int)) 4)) b false = true := e3
            rw [e4] at e3
            have h4 := bnot_t (and_l e3)
            have hav := (hbb h4).1 (and_r e3)
            show (([], [[V.str (rStr (rAt ((List.range 40).map g) (i : Int)) 5)]]) : Rows × Rows) = _
            rw [hsome, rat_map g i hi40]
            show _ = two1 g i
            unfold two1
            rw [if_pos ⟨h4, hav⟩]
          · have e3 : bIte (bNot (rBool (rAt ((List.range 40).map g) (i : Int)) 4)) b false = false := e3
            rw [e4] at e3
            show ([], []) = _
            rw [hsome]
            show _ = two1 g i
            unfold two1
            rw [if_neg (fun h => by
              have := (hbb h.1).2 h.2
              rw [this, h.1] at e3
              cases e3)]
      · have e := of_decide_eq_false e
        exact hi_none (fun k h1 h2 => hb k (by omega) h2)
    · rw [len_map]
      exact ⟨40, rfl, Nat.le_refl _, fun k hk hk2 => by omega⟩
  have hr2 : hi (fun k => rBool (g k) 0) R 40 = none := hr
  rw [hr2]
  refine D.bnd (outdated_eq g R Q hR) (fun r hr => ?_)
  subst hr
  show D _ (fun v => v = thr1 g (hi (pO g) Q R))
  cases e : hi (pO g) Q R with
  | none => exact D.test (fun e => by cases e) (fun _ => D.ret rfl)
  | some j =>
    obtain ⟨h1, h2, _⟩ := hi_is e
    refine D.tt (iLe_iff.2 (by show (0 : Int) ≤ (j : Int); omega)) (D.tt (by rw [len_map]; exact decide_eq_true ⟨by show (0 : Int) ≤ (j : Int); omega, by show (j : Int) < 40; omega⟩) (D.ret ?_))
    show ([], [[.str (rStr (rAt ((List.range 40).map g) (j : Int)) 5)]]) = thr1 g (some j)
    rw [rat_map g j (by omega)]; rfl
theorem cr_succ {g : Nat → Row} {R n : Nat} : cr g R (n + 1) = cr g R n ++ bif decide (n < R) && !rBool (g n) 0 then [[V.int .i64 (n : Int)]] else [] := by
  unfold cr
  rw [List.range_succ, List.filter_append, List.map_append]
  congr 1
  rw [List.filter_cons]
  cases decide (n < R) && !rBool (g n) 0 <;> rfl
theorem rm_succ {g : Nat → Row} {R n : Nat} : rm g R (n + 1) = rm g R n ++ bif rBool (g n) 0 && !rBool (g n) 4 && (decide (R ≤ n) || rBool (g n) 3) then [[V.str (rStr (g n) 5)]] else [] := by
  unfold rm
  rw [List.range_succ, List.filter_append, List.map_append]
  congr 1
  rw [List.filter_cons]
  cases rBool (g n) 0 && !rBool (g n) 4 && (decide (R ≤ n) || rBool (g n) 3) <;> rfl
theorem cr_le {g : Nat → Row} {R n : Nat} : (cr g R n).length ≤ n := by
  unfold cr
  rw [List.length_map]
  exact Nat.le_trans (List.length_filter_le _ _) (by simp)
theorem rm_le {g : Nat → Row} {R n : Nat} : (rm g R n).length ≤ n := by
  unfold rm
  rw [List.length_map]
  exact Nat.le_trans (List.length_filter_le _ _) (by simp)
theorem cr_none {g : Nat → Row} {R : Nat} (hR : R ≤ 40) (h : (cr g R 40).length = 0) {k : Nat} (hk : k < R) : rBool (g k) 0 = true := by
  unfold cr at h
  rw [List.length_map] at h
  have h := List.filter_eq_nil_iff.1 (List.eq_nil_of_length_eq_zero h) k (List.mem_range.2 (by omega))
  cases e : rBool (g k) 0 with
  | true => rfl
  | false => exact absurd (by rw [e, decide_eq_true hk]; rfl) h
theorem push_ok {b : Nat} (hb : b ≤ 134217728) {x : Rows} {r : Row} (h : x.length ≤ 1000) : rOk b (rLen x) (rLen [r]) = true := rOk_of hb (by unfold rLen; omega) (by unfold rLen; omega) rfl
theorem ile_nat (a b : Nat) : iLe (a : Int) (b : Int) = decide (a ≤ b) := by
  unfold iLe
  by_cases h : a ≤ b
  · rw [decide_eq_true h]; exact decide_eq_true (by omega)
  · rw [decide_eq_false h]; exact decide_eq_false (by omega)
theorem ilt_dec (a b : Nat) : iLt (a : Int) (b : Int) = decide (a < b) := by
  unfold iLt
  by_cases h : a < b
  · rw [decide_eq_true h]; exact decide_eq_true (by omega)
  · rw [decide_eq_false h]; exact decide_eq_false (by omega)
/-- The sets to make and to remove, on from n. -/
theorem parallel_loop {g : Nat → Row} {R : Nat} {n : Nat} {x y : Rows} (hx : x = cr g R n) (hy : y = rm g R n) :
    (rBool (g n) 0 = false → (n < R → rCat x [[V.int .i64 (n : Int)]] = cr g R (n + 1)) ∧ (¬ n < R → x = cr g R (n + 1)) ∧ y = rm g R (n + 1)) ∧
    (rBool (g n) 0 = true → x = cr g R (n + 1) ∧ ((!rBool (g n) 4 && (decide (R ≤ n) || rBool (g n) 3)) = true → rCat y [[V.str (rStr (g n) 5)]] = rm g R (n + 1)) ∧ ((!rBool (g n) 4 && (decide (R ≤ n) || rBool (g n) 3)) = false → y = rm g R (n + 1))) := by
  subst hx
  subst hy
  rw [cr_succ, rm_succ]
  refine ⟨fun h => ?_, fun h => ?_⟩
  · rw [h]
    refine ⟨fun hn => by rw [decide_eq_true hn]; rfl, fun hn => by rw [decide_eq_false hn]; simp, by simp⟩
  · rw [h]
    refine ⟨by simp, fun e => by rw [Bool.true_and, e]; rfl, fun e => by rw [Bool.true_and, e]; simp⟩
theorem parallel_eq (g : Nat → Row) (R Q : Nat) (hR : R ≤ 40) : D (fun k => (statefulset_parallel.f k ((List.range 40).map g) (R : Int) (Q : Int)).eval) (fun v => v = parS g R Q) := by
  refine D.bnd (q := fun v => v = (cr g R 40, rm g R 40)) ?_ (fun r hr => ?_)
  · show D (fun k => iter (statefulset_parallel.s4 k ((List.range 40).map g) (R : Int) (Q : Int) ((List.range 40).map g) (rLen ((List.range 40).map g))) k ([], ([], 0))) _
    rw [len_map]
    refine D.loop (fun x : Rows × Rows × Int => ∃ n : Nat, n ≤ 40 ∧ x = (cr g R n, rm g R n, (n : Int))) (fun x => 40 - x.2.2.toNat) _ (fun x hx => ?_) _ ⟨0, Nat.zero_le _, rfl⟩
    obtain ⟨n, hn, rfl⟩ := hx
    by_cases h40 : n < 40
    · have hp := parallel_loop (g := g) (R := R) (n := n) rfl rfl
      have hat := rat_map g n h40
      have nxt : ∀ x y, x = cr g R (n + 1) → y = rm g R (n + 1) → (∃ m : Nat, m ≤ 40 ∧ ((x, y, iAdd .i64 (n : Int) 1) : Rows × Rows × Int) = (cr g R m, rm g R m, (m : Int))) ∧ 40 - (iAdd .i64 (n : Int) 1).toNat < 40 - ((n : Int)).toNat := fun x y hx hy => by
        rw [iAdd_in (by omega) (by omega)]
        exact ⟨⟨n + 1, by omega, by rw [hx, hy]; rfl⟩, by omega⟩
      refine D.tt (ilt_nat h40) (D.tt (by rw [len_map]; exact decide_eq_true ⟨by show (0 : Int) ≤ (n : Int); omega, by show (n : Int) < 40; omega⟩) ?_)
      have e1 : bIte (iLt (n : Int) (R : Int)) (bNot (rBool (rAt ((List.range 40).map g) (n : Int)) 0)) false = (decide (n < R) && !rBool (g n) 0) := by
        rw [hat, bIte_and, ilt_dec]; rfl
      have e2 : bIte (bIte (rBool (rAt ((List.range 40).map g) (n : Int)) 0) (bNot (rBool (rAt ((List.range 40).map g) (n : Int)) 4)) false) (bIte (iLe (R : Int) (n : Int)) true (rBool (rAt ((List.range 40).map g) (n : Int)) 3)) false = (rBool (g n) 0 && (!rBool (g n) 4 && (decide (R ≤ n) || rBool (g n) 3))) := by
        rw [hat, bIte_and, bIte_and, ile_nat, Bool.and_assoc]
        cases decide (R ≤ n) <;> rfl
      refine D.test (fun e => D.tt (push_ok (by decide) (Nat.le_trans cr_le (by omega))) (D.ret ?_)) (fun e => D.test (fun e3 => D.tt (push_ok (by decide) (Nat.le_trans rm_le (by omega))) (D.ret ?_)) (fun e3 => D.ret ?_))
      · have e := Bool.and_eq_true_iff.1 (e1.symm.trans e)
        have h0 : rBool (g n) 0 = false := by have := e.2; cases h : rBool (g n) 0 with | false => rfl | true => rw [h] at this; cases this
        exact nxt _ _ ((hp.1 h0).1 (of_decide_eq_true e.1)) (hp.1 h0).2.2
      · have e3 := Bool.and_eq_true_iff.1 (e2.symm.trans e3)
        show _ ∧ _
        have hst : rStr (rAt ((List.range 40).map g) (n : Int)) 5 = rStr (g n) 5 := by rw [hat]
        refine nxt _ _ ((hp.2 e3.1).1) ?_
        show rCat (rm g R n) [[.str (rStr (rAt ((List.range 40).map g) (n : Int)) 5)]] = _
        rw [hst]
        exact (hp.2 e3.1).2.1 e3.2
      · have e := e1.symm.trans e
        have e3 := e2.symm.trans e3
        cases h0 : rBool (g n) 0 with
        | false =>
          rw [h0] at e
          refine nxt _ _ ((hp.1 h0).2.1 (fun hn => by rw [decide_eq_true hn] at e; cases e)) (hp.1 h0).2.2
        | true =>
          rw [h0] at e3
          exact nxt _ _ (hp.2 h0).1 ((hp.2 h0).2.2 e3)
    · have : n = 40 := by omega
      subst this
      exact D.test (fun e => by have := iLt_iff.1 e; simp at this) (fun _ => D.ret rfl)
  subst hr
  have hl1 : rLen (cr g R 40) = ((cr g R 40).length : Int) := rfl
  have hl2 : rLen (rm g R 40) = ((rm g R 40).length : Int) := rfl
  have hc1 : (cr g R 40).length ≤ 40 := cr_le
  have hc2 : (rm g R 40).length ≤ 40 := rm_le
  have ea : iAdd .i64 (rLen (cr g R 40)) (rLen (rm g R 40)) = (((cr g R 40).length + (rm g R 40).length : Nat) : Int) := by
    rw [hl1, hl2, iAdd_in (by omega) (by omega)]; omega
  refine D.test (fun e => D.ret ?_) (fun e => ?_)
  · have e : iLt 0 (iAdd .i64 (rLen (cr g R 40)) (rLen (rm g R 40))) = true := e
    rw [ea] at e
    have e := iLt_iff.1 e
    show _ = parS g R Q
    unfold parS
    rw [if_pos (by omega)]
  · have e : iLt 0 (iAdd .i64 (rLen (cr g R 40)) (rLen (rm g R 40))) = false := e
    rw [ea] at e
    have e := of_decide_eq_false e
    have hz1 : (cr g R 40).length = 0 := by omega
    have hz2 : (rm g R 40).length = 0 := by omega
    have hrm : rm g R 40 = [] := List.eq_nil_of_length_eq_zero hz2
    have hps : parS g R Q = match hi (pO g) Q R with
      | none => ([], [])
      | some j => (open Classical in if rBool (g j) 4 = false ∧ avs g (j + 1) R then ([], [[.str (rStr (g j) 5)]]) else ([], [])) := by
      unfold parS
      rw [if_neg (by omega)]
    rw [hps]
    show D (fun k => (T.bnd (statefulset_outdated.f k ((List.range 40).map g) (R : Int) (Q : Int)).eval default _).eval) _
    refine D.bnd (outdated_eq g R Q hR) (fun r hr => ?_)
    subst hr
    cases eh : hi (pO g) Q R with
    | none =>
      refine D.tt (by rfl) (D.tt (by rfl) (D.opt (q := fun _ => True) (fun e => by cases e) (fun _ => trivial) (fun b _ => D.test (fun e => by cases e) (fun _ => D.ret ?_))))
      show ([], rm g R 40) = _
      rw [hrm]
    | some j =>
      obtain ⟨h1, h2, _⟩ := hi_is eh
      have hle : iLe 0 (oI (some j)) = true := iLe_iff.2 (by show (0 : Int) ≤ (j : Int); omega)
      have hin : iIn (oI (some j)) (rLen ((List.range 40).map g)) = true := by rw [len_map]; exact decide_eq_true ⟨by show (0 : Int) ≤ (j : Int); omega, by show (j : Int) < 40; omega⟩
      have hadd : iAdd .i64 (oI (some j)) 1 = ((j + 1 : Nat) : Int) := by show iAdd .i64 (j : Int) 1 = _; rw [iAdd_in (by omega) (by omega)]; omega
      have e4 : rBool (rAt ((List.range 40).map g) (oI (some j))) 4 = rBool (g j) 4 := by show rBool (rAt ((List.range 40).map g) (j : Int)) 4 = _; rw [rat_map g j (by omega)]
      have e5 : rStr (rAt ((List.range 40).map g) (oI (some j))) 5 = rStr (g j) 5 := by show rStr (rAt ((List.range 40).map g) (j : Int)) 5 = _; rw [rat_map g j (by omega)]
      have hav : ∀ b, (b = false ↔ ∀ k, j + 1 ≤ k → k < R → rBool (g k) 1 = true) → (b = false ↔ avs g (j + 1) R) := fun b hb => by
        rw [hb]
        exact ⟨fun h k a b _ => h k a b, fun h k a b => h k a b (cr_none hR hz1 b)⟩
      refine D.tt (bimp_2 _ hin) (D.tt (bimp_2 _ ?_) ?_)
      · rw [hadd, len_map]; exact decide_eq_true ⟨by omega, by omega, by omega⟩
      refine D.opt (q := fun v => rBool (g j) 4 = false → (v = false ↔ avs g (j + 1) R)) (fun _ => ?_) (fun ed h => by
        have ed : bIte (iLe 0 (oI (some j))) (bNot (rBool (rAt ((List.range 40).map g) (oI (some j))) 4)) false = false := ed
        rw [hle, e4, h] at ed; cases ed) (fun b hb => ?_)
      · show D (fun k => (slices_ContainsFunc_statefulset_slot_statefulset_slot_c50.f k (rCut ((List.range 40).map g) (iAdd .i64 (oI (some j)) 1) (R : Int))).eval) _
        rw [hadd]
        exact D.mono (any50 g (j + 1) R (by omega) hR) (fun v hv _ => hav v hv)
      · have e6 : bIte (bIte (iLe 0 (oI (some j))) (bNot (rBool (rAt ((List.range 40).map g) (oI (some j))) 4)) false) (bNot b) false = (!rBool (g j) 4 && !b) := by
          rw [hle, e4, bIte_and, bIte_and, Bool.true_and]; rfl
        refine D.test (fun e => D.tt hin (D.tt (push_ok (by decide) (Nat.le_trans rm_le (by omega))) (D.ret ?_))) (fun e => D.ret ?_)
        · have e := Bool.and_eq_true_iff.1 (e6.symm.trans e)
          have h4 : rBool (g j) 4 = false := by have := e.1; cases h : rBool (g j) 4 with | false => rfl | true => rw [h] at this; cases this
          have hb0 : b = false := by have := e.2; cases b with | false => rfl | true => cases this
          show ([], rCat (rm g R 40) [[V.str (rStr (rAt ((List.range 40).map g) (oI (some j))) 5)]]) = _
          rw [hrm, e5]
          exact (if_pos ⟨h4, (hb h4).1 hb0⟩).symm
        · have e := e6.symm.trans e
          show ([], rm g R 40) = _
          rw [hrm]
          exact (if_neg (fun h => by
            rw [(hb h.1).2 h.2, h.1] at e
            cases e)).symm
open Classical in
/-- What Plan answers. -/
def planS (a0 : Row) (g : Nat → Row) (R Q : Nat) : Rows × Rows := if rBool a0 7 = true then ([], []) else if rBool a0 16 = true then parS g R Q else ordS g R Q
theorem plan_eq (a0 : Row) (ha : Br a0) (l : Rows) (hl : Brs l) (now : Int) (R Q : Nat) (hR : R ≤ 40) (h1 : iMin (iMax (rInt a0 13) 0) 40 = (R : Int)) (g1 : iMin (iMax (rInt a0 14) 0) (iMin (iMax (rInt a0 13) 0) 40) = (Q : Int)) :
    D (fun k => (statefulset_Plan.f k a0 l now).eval) (fun v => v = planS a0 (slt a0 l now (hsh (eo 37 a0 18))) R Q) := by
  refine D.test (fun e => D.ret ?_) (fun e0 => ?_)
  · show _ = planS a0 _ R Q
    unfold planS
    rw [if_pos e]
  have e0 : rBool a0 7 = false := e0
  refine D.bnd (q := fun v => v = (List.range 40).map (slt a0 l now (hsh (eo 37 a0 18)))) ?_ (fun r hr => ?_)
  · have := slots_val (et 41 a0) (Br.eta ha _) l hl now
    exact this
  subst hr
  refine D.bnd (q := fun v => v = (iMin (iMax (rInt a0 13) 0) 40, iMin (iMax (rInt a0 14) 0) (iMin (iMax (rInt a0 13) 0) 40))) (D.ret rfl) (fun r hr => ?_)
  subst hr
  have hps : planS a0 (slt a0 l now (hsh (eo 37 a0 18))) R Q = (open Classical in if rBool a0 16 = true then parS (slt a0 l now (hsh (eo 37 a0 18))) R Q else ordS (slt a0 l now (hsh (eo 37 a0 18))) R Q) := by
    unfold planS
    rw [if_neg (by rw [e0]; decide)]
  rw [hps]
  refine D.test (fun e => ?_) (fun e => ?_)
  · rw [if_pos e]
    refine D.bnd (q := fun v => v = parS (slt a0 l now (hsh (eo 37 a0 18))) R Q) ?_ (fun r hr => D.ret hr)
    show D (fun k => (statefulset_parallel.f k ((List.range 40).map (slt a0 l now (hsh (eo 37 a0 18)))) (iMin (iMax (rInt a0 13) 0) 40) (iMin (iMax (rInt a0 14) 0) (iMin (iMax (rInt a0 13) 0) 40))).eval) _
    rw [g1, h1]
    exact parallel_eq _ R Q hR
  · rw [if_neg (by have e : rBool a0 16 = false := e; rw [e]; decide)]
    refine D.bnd (q := fun v => v = ordS (slt a0 l now (hsh (eo 37 a0 18))) R Q) ?_ (fun r hr => D.ret hr)
    show D (fun k => (statefulset_ordered.f k ((List.range 40).map (slt a0 l now (hsh (eo 37 a0 18)))) (iMin (iMax (rInt a0 13) 0) 40) (iMin (iMax (rInt a0 14) 0) (iMin (iMax (rInt a0 13) 0) 40))).eval) _
    rw [g1, h1]
    exact ordered_eq _ R Q hR
end
end Go.Proofs.YtolackmpfnndhaaGreatDoor.Ev
