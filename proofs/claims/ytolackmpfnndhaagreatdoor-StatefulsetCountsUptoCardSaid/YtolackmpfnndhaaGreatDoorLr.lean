/- Stateful sets: what Plan answers, exactly: the reference's side; the law StatefulsetPlans. Conditions: stated at each. -/
import Derived.Test.YtolackmpfnndhaaGreatDoorLq
namespace Go.Proofs.YtolackmpfnndhaaGreatDoor.Ev
open Go Go.RowKit
set_option linter.unusedVariables false
set_option maxRecDepth 100000
noncomputable section
/-- A slot and the reference's row of the same ordinal. -/
theorem ref_at (a0 : Row) (l : Rows) (hl : Brs l) (now : Int) (h : ByteArray) (i : Nat) :
    (rBool (slt a0 l now h i) 0 = false ∧ prw a0 l i = z54 ∧ slt a0 l now h i = zs) ∨
    ∃ p, rBool (slt a0 l now h i) 0 = true ∧ prw a0 l i = [.slice 61 [et 61 p] (.fullq false)] ∧ slt a0 l now h i = srow a0 now h p ∧ Br p ∧ rStr p 2 = nmc (rStr a0 2) i := by
  cases hf : fnd a0 l (nmc (rStr a0 2) i) with
  | none =>
    have e : slt a0 l now h i = zs := by unfold slt; rw [hf]
    exact Or.inl ⟨by rw [e]; rfl, by unfold prw; rw [hf], e⟩
  | some p =>
    have e : slt a0 l now h i = srow a0 now h p := by unfold slt; rw [hf]
    obtain ⟨h1, _, h3⟩ := fnd_mem hf
    exact Or.inr ⟨p, by rw [e]; rfl, by unfold prw; rw [hf], e, hl.2 _ h1, h3⟩
theorem updated_val (a0 p : Row) (ha : Br a0) (hp : Br p) (now : Int) :
    D (fun k => (ref44_Updated.f k (eo 37 (et 41 a0) 18) (et 61 (et 61 p))).eval) (fun v => v = rBool (srow a0 now (hsh (eo 37 a0 18)) p) 2) := by
  refine D.bnd (q := fun v => v = label_Get.v (rSl (et 61 p) 9) (bs [116, 101, 109, 112, 108, 97, 116, 101, 45, 104, 97, 115, 104])) ?_ (fun r hr => ?_)
  · refine D.mono (ref03_Get.val _ _ (Br.sl (Br.eta (Br.eta hp _) _) 9)) (fun v hv => ?_)
    rw [hv.1]; rfl
  · subst hr
    refine D.opt (q := fun v => (label_Get.v (rSl (et 61 p) 9) (bs [116, 101, 109, 112, 108, 97, 116, 101, 45, 104, 97, 115, 104])).2 = true → v = hsh (eo 37 a0 18)) (fun _ => ?_) (fun e h => by rw [h] at e; cases e) (fun h hh => D.ret ?_)
    · refine D.mono (rHash_val (et 37 (eo 37 (et 41 a0) 18)) (Br.eta (br_etaL (Br.eta ha _) _ _) _) (by kernel_rfl)) (fun v hv _ => hv.trans (congrArg hsh (by kernel_rfl)))
    · show bIte (label_Get.v (rSl (et 61 p) 9) (bs [116, 101, 109, 112, 108, 97, 116, 101, 45, 104, 97, 115, 104])).2 (sEq (label_Get.v (rSl (et 61 p) 9) (bs [116, 101, 109, 112, 108, 97, 116, 101, 45, 104, 97, 115, 104])).1 h) false = bIte (label_Get.v (rSl (et 61 p) 9) (bs [116, 101, 109, 112, 108, 97, 116, 101, 45, 104, 97, 115, 104])).2 (sEq (label_Get.v (rSl (et 61 p) 9) (bs [116, 101, 109, 112, 108, 97, 116, 101, 45, 104, 97, 115, 104])).1 (hsh (eo 37 a0 18))) false
      cases e : (label_Get.v (rSl (et 61 p) 9) (bs [116, 101, 109, 112, 108, 97, 116, 101, 45, 104, 97, 115, 104])).2 with
      | false => rfl
      | true => rw [hh e]
section
variable (a0 : Row) (ha : Br a0) (l : Rows) (hl : Brs l) (now : Int) (g : Nat → Row) (hg : g = slt a0 l now (hsh (eo 37 a0 18))) (L : Rows) (hL : L = (List.range 40).map (prw a0 l))
include hL in
theorem at_row {i : Nat} (hi : i < 40) : rAt L (i : Int) = prw a0 l i := by rw [hL]; exact rat_map _ i hi
include hL in
theorem at_in {i : Nat} (hi : i < 40) : iIn (i : Int) (rLen L) = true := by rw [hL, len_map]; exact decide_eq_true ⟨by omega, by omega⟩
include hg hL hl in
theorem at_len {i : Nat} (hi : i < 40) : rLen (rSl (rAt L (i : Int)) 0) = bif rBool (g i) 0 then 1 else 0 := by
  rw [at_row a0 l L hL hi]
  rcases ref_at a0 l hl now (hsh (eo 37 a0 18)) i with ⟨h1, h2, h3⟩ | ⟨p, h1, h2, h3, _⟩
  · rw [h2, hg, h1]; rfl
  · rw [h2, hg, h1]; rfl
include hg hL hl in
theorem at_avail {i : Nat} (hi : i < 40) (hT : rBool (g i) 0 = true) : D (fun k => (ref33_Available.f k (et 61 (rAt (rSl (rAt L (i : Int)) 0) 0)) (rInt (et 41 a0) 15) now).eval) (fun v => v = rBool (g i) 1) := by
  rcases ref_at a0 l hl now (hsh (eo 37 a0 18)) i with ⟨h1, _⟩ | ⟨p, h1, h2, h3, _⟩
  · rw [hg, h1] at hT; cases hT
  · have hr : rAt (rSl (rAt L (i : Int)) 0) 0 = et 61 p := by rw [at_row a0 l L hL hi, h2]; rfl
    rw [hg, h3, hr]
    exact D.mono (ref33_Available.val _ _ _) (fun v hv => by rw [hv.1, avail_eq47]; rfl)
include hg hL hl in
theorem at_fin {i : Nat} (hi : i < 40) (hT : rBool (g i) 0 = true) : D (fun k => (ref47_Finished.f k (et 61 (rAt (rSl (rAt L (i : Int)) 0) 0))).eval) (fun v => v = rBool (g i) 3) := by
  rcases ref_at a0 l hl now (hsh (eo 37 a0 18)) i with ⟨h1, _⟩ | ⟨p, h1, h2, h3, _⟩
  · rw [hg, h1] at hT; cases hT
  · have hr : rAt (rSl (rAt L (i : Int)) 0) 0 = et 61 p := by rw [at_row a0 l L hL hi, h2]; rfl
    rw [hg, h3, hr]
    exact D.mono (ref47_Finished.val _) (fun v hv => by rw [hv.1]; rfl)
include hg hL hl in
theorem at_key {i : Nat} (hi : i < 40) (hT : rBool (g i) 0 = true) : D (fun k => (ref47_key.f k (et 61 (rAt (rSl (rAt L (i : Int)) 0) 0))).eval) (fun v => v = [[.str (rStr (g i) 5)]]) := by
  rcases ref_at a0 l hl now (hsh (eo 37 a0 18)) i with ⟨h1, _⟩ | ⟨p, h1, h2, h3, hb, hn⟩
  · rw [hg, h1] at hT; cases hT
  · have hr : rAt (rSl (rAt L (i : Int)) 0) 0 = et 61 p := by rw [at_row a0 l L hL hi, h2]; rfl
    obtain ⟨K, k1, k2⟩ := key_eq47 (a0 := a0) (n := nmc (rStr a0 2) i) hn
    rw [hg, h3, hr]
    refine D.bnd (q := fun v => v = rStr (srow a0 now (hsh (eo 37 a0 18)) p) 5) ?_ (fun r e => D.ret (by rw [e]))
    refine D.mono (ref13_KeyOf.val _ (Br.eta (Br.eta (Br.eta hb _) _) _)) (fun v hv => ?_)
    rw [hv.1]
    show ref13_KeyOf.v (et 27 (et 61 p)) = meta_KeyOf.v (et 27 (et 61 p))
    rw [k1, k2]
include hg hL hl ha in
theorem at_upd {i : Nat} (hi : i < 40) (hT : rBool (g i) 0 = true) : D (fun k => (ref44_Updated.f k (eo 37 (et 41 a0) 18) (et 61 (rAt (rSl (rAt L (i : Int)) 0) 0))).eval) (fun v => v = rBool (g i) 2) := by
  rcases ref_at a0 l hl now (hsh (eo 37 a0 18)) i with ⟨h1, _⟩ | ⟨p, h1, h2, h3, hb, hn⟩
  · rw [hg, h1] at hT; cases hT
  · have hr : rAt (rSl (rAt L (i : Int)) 0) 0 = et 61 p := by rw [at_row a0 l L hL hi, h2]; rfl
    rw [hg, h3, hr]
    exact updated_val a0 p ha hb now
include hg hL hl in
theorem at_del {i : Nat} (hi : i < 40) (hT : rBool (g i) 0 = true) : rBool (rAt (rSl (rAt L (i : Int)) 0) 0) 7 = rBool (g i) 4 := by
  rcases ref_at a0 l hl now (hsh (eo 37 a0 18)) i with ⟨h1, _⟩ | ⟨p, h1, h2, h3, hb, hn⟩
  · rw [hg, h1] at hT; cases hT
  · have hr : rAt (rSl (rAt L (i : Int)) 0) 0 = et 61 p := by rw [at_row a0 l L hL hi, h2]; rfl
    rw [hg, h3, hr]; rfl
variable (A : Row) (hA : et 41 A = et 41 a0)
include hg hL hl hA in
theorem available_val (lo n : Nat) (hn : n ≤ 40) (hlo : lo ≤ n) : D (fun k => (ref47_available.f k A L (lo : Int) (n : Int) now).eval) (fun v => v = true ↔ avs g lo n) := by
  refine D.cas (q := fun v => match v with | .inl w => w = false ∧ ¬ avs g lo n | .inr _ => avs g lo n) ?_ (fun r hr => D.ret ?_) (fun r hr => D.ret ?_)
  · rw [hA]
    refine D.mono (D.loop (p := fun v => match v with | .inl w => w = false ∧ ¬ avs g lo n | .inr _ => avs g lo n) (fun x : Int => ∃ i : Nat, x = (i : Int) ∧ lo ≤ i ∧ i ≤ n ∧ avs g lo i) (fun x => n - x.toNat) (fun x hx => ?_) _ ⟨lo, rfl, Nat.le_refl _, hlo, fun k h1 h2 => by omega⟩) (fun v hv => hv)
    obtain ⟨i, rfl, hli, hin, hb⟩ := hx
    by_cases h : i < n
    · have i40 : i < 40 := by omega
      have hI := at_in a0 l L hL i40
      have hlen := at_len a0 l hl now g hg L hL i40
      have nxt : (rBool (g i) 0 = true → rBool (g i) 1 = true) → (∃ j : Nat, iAdd .i64 (i : Int) 1 = (j : Int) ∧ lo ≤ j ∧ j ≤ n ∧ avs g lo j) ∧ n - (iAdd .i64 (i : Int) 1).toNat < n - ((i : Int)).toNat := fun hh => by
        rw [iAdd_in (by omega) (by omega)]
        refine ⟨⟨i + 1, by omega, by omega, by omega, fun k h1 h2 h3 => ?_⟩, by omega⟩
        by_cases hki : k = i
        · subst hki; exact hh h3
        · exact hb k h1 (by omega) h3
      refine D.tt (ilt_nat h) (D.tt hI (D.tt (bimp_2 _ hI) ?_))
      cases hT : rBool (g i) 0 with
      | false =>
        rw [hT] at hlen
        refine D.tt (bimp_of (fun e => by rw [hlen] at e; cases e)) (D.opt (q := fun _ => True) (fun e => by rw [hlen] at e; cases e) (fun _ => trivial) (fun b _ => D.test (fun e => ?_) (fun e => D.ret (nxt (fun e => by rw [hT] at e; cases e)))))
        have e : bIte (iLt 0 (rLen (rSl (rAt L (i : Int)) 0))) (bNot b) false = true := e
        rw [hlen] at e; cases e
      | true =>
        rw [hT] at hlen
        refine D.tt (bimp_2 _ (by rw [hlen]; rfl)) (D.opt (q := fun v => v = rBool (g i) 1) (fun _ => at_avail a0 l hl now g hg L hL i40 hT) (fun e => by rw [hlen] at e; cases e) (fun b hb2 => ?_))
        subst hb2
        refine D.test (fun e => D.ret ?_) (fun e => D.ret (nxt (fun _ => ?_)))
        · have e := bnot_t (and_r e)
          exact ⟨rfl, fun hh => by rw [hh i hli h hT] at e; cases e⟩
        · have e : bIte (iLt 0 (rLen (rSl (rAt L (i : Int)) 0))) (bNot (rBool (g i) 1)) false = false := e
          rw [hlen] at e
          exact bnot_f e
    · have : i = n := by omega
      subst this
      exact D.test (fun e => by rw [show iLt (i : Int) (i : Int) = false from ilt_nat' h] at e; cases e) (fun _ => D.ret hb)
  · exact ⟨fun h => absurd (hr.1.symm.trans h) (by decide), fun h => absurd h hr.2⟩
  · exact ⟨fun _ => hr, fun _ => rfl⟩
include hg hL hl ha hA in
theorem highest_val (o : Bool) (lo n : Nat) (hn : n ≤ 40) : D (fun k => (ref47_highest.f k A L (lo : Int) (n : Int) o).eval) (fun v => v = oI (hi (fun k => rBool (g k) 0 && (!o || !rBool (g k) 2)) lo n)) := by
  refine D.cas (q := fun v => match v with | .inl w => w = oI (hi (fun k => rBool (g k) 0 && (!o || !rBool (g k) 2)) lo n) | .inr _ => hi (fun k => rBool (g k) 0 && (!o || !rBool (g k) 2)) lo n = none) ?_ (fun r hr => D.ret hr) (fun r hr => D.ret (by rw [show hi (fun k => rBool (g k) 0 && (!o || !rBool (g k) 2)) lo n = none from hr]; rfl))
  rw [hA]
  refine D.mono (D.loop (p := fun v => match v with | .inl w => w = oI (hi (fun k => rBool (g k) 0 && (!o || !rBool (g k) 2)) lo n) | .inr _ => hi (fun k => rBool (g k) 0 && (!o || !rBool (g k) 2)) lo n = none) (fun x : Int => ∃ m : Nat, x = (m : Int) - 1 ∧ m ≤ n ∧ ∀ k, m ≤ k → k < n → (rBool (g k) 0 && (!o || !rBool (g k) 2)) = false) (fun x => (x + 1).toNat) (fun x hx => ?_) _ ⟨n, iSub_in (by omega) (by omega), Nat.le_refl _, fun k h1 h2 => by omega⟩) (fun v hv => hv)
  obtain ⟨m, rfl, hm, hb⟩ := hx
  refine D.test (fun e => ?_) (fun e => D.ret ?_)
  · have e := iLe_iff.1 e
    obtain ⟨i, rfl⟩ : ∃ j : Nat, m = j + 1 := ⟨m - 1, by omega⟩
    have e1 : ((i + 1 : Nat) : Int) - 1 = (i : Int) := by omega
    rw [e1] at e ⊢
    have i40 : i < 40 := by omega
    have hI := at_in a0 l L hL i40
    have hlen := at_len a0 l hl now g hg L hL i40
    have nxt : (rBool (g i) 0 && (!o || !rBool (g i) 2)) = false → (∃ m' : Nat, iSub .i64 (i : Int) 1 = (m' : Int) - 1 ∧ m' ≤ n ∧ ∀ k, m' ≤ k → k < n → (rBool (g k) 0 && (!o || !rBool (g k) 2)) = false) ∧ (iSub .i64 (i : Int) 1 + 1).toNat < ((i : Int) + 1).toNat := fun hh => by
      rw [iSub_in (by omega) (by omega)]
      refine ⟨⟨i, rfl, by omega, fun k h1 h2 => ?_⟩, by omega⟩
      by_cases hki : k = i
      · subst hki; exact hh
      · exact hb k (by omega) h2
    refine D.tt hI (D.tt (bimp_2 _ hI) ?_)
    cases hT : rBool (g i) 0 with
    | false =>
      rw [hT] at hlen
      refine D.tt (bimp_of (fun e => by rw [hlen] at e; cases e)) (D.opt (q := fun _ => True) (fun e => by rw [hlen] at e; cases e) (fun _ => trivial) (fun b _ => D.test (fun e => ?_) (fun e => D.ret (nxt (by rw [hT]; rfl)))))
      have e : bIte (iLt 0 (rLen (rSl (rAt L (i : Int)) 0))) (bIte (bNot o) true (bNot b)) false = true := e
      rw [hlen] at e; cases e
    | true =>
      rw [hT] at hlen
      refine D.tt (bimp_2 _ (by rw [hlen]; rfl)) (D.opt (q := fun v => o = true → v = rBool (g i) 2) (fun _ => D.mono (at_upd a0 ha l hl now g hg L hL i40 hT) (fun v hv _ => hv)) (fun e h => by rw [hlen, h] at e; cases e) (fun b hb2 => ?_))
      have ep : bIte (iLt 0 (rLen (rSl (rAt L (i : Int)) 0))) (bIte (bNot o) true (bNot b)) false = (rBool (g i) 0 && (!o || !rBool (g i) 2)) := by
        rw [hlen, hT]
        cases o with
        | false => rfl
        | true => rw [hb2 rfl]; rfl
      refine D.test (fun e2 => D.ret ?_) (fun e2 => D.ret (nxt (ep.symm.trans e2)))
      show (i : Int) = _
      rw [hi_some (p := fun k => rBool (g k) 0 && (!o || !rBool (g k) 2)) (by omega) (ep.symm.trans e2) (by omega) (fun k h1 h2 => hb k (by omega) h2)]; rfl
  · have e := of_decide_eq_false e
    exact hi_none (fun k h1 h2 => hb k (by omega) h2)
theorem hA2 {A a0 : Row} (h : et 41 A = et 41 a0) : et 41 (et 41 A) = et 41 a0 := by rw [h]; kernel_rfl
include hg hL hl ha hA in
theorem rordered_val (R Q : Nat) (hR : R ≤ 40) : D (fun k => (ref47_ordered.f k A L (R : Int) (Q : Int) now).eval) (fun v => v = ordS g R Q) := by
  have hAA := hA2 hA
  refine D.cas (q := fun v => match v with | .inl w => w = ordS g R Q | .inr _ => ∀ k, k < R → rBool (g k) 0 = true ∧ rBool (g k) 1 = true) ?_ (fun r hr => D.ret hr) (fun r hr => ?_)
  · rw [hA]
    refine D.mono (D.loop (p := fun v => match v with | .inl w => w = ordS g R Q | .inr _ => ∀ k, k < R → rBool (g k) 0 = true ∧ rBool (g k) 1 = true) (fun x : Int => ∃ i : Nat, x = (i : Int) ∧ i ≤ R ∧ ∀ k, k < i → rBool (g k) 0 = true ∧ rBool (g k) 1 = true) (fun x => R - x.toNat) (fun x hx => ?_) _ ⟨0, rfl, Nat.zero_le _, fun k hk => by omega⟩) (fun v hv => hv)
    obtain ⟨i, rfl, hi, hb⟩ := hx
    by_cases hlt : i < R
    · have i40 : i < 40 := by omega
      have hI := at_in a0 l L hL i40
      have hlen := at_len a0 l hl now g hg L hL i40
      refine D.tt (ilt_nat hlt) (D.tt hI ?_)
      cases hT : rBool (g i) 0 with
      | false =>
        rw [hT] at hlen
        refine D.tt (by rw [hlen]; rfl) (D.ret ?_)
        show _ = ordS g R Q
        rw [ord_1 hlt (by rw [hT]; rfl) hb]
        unfold one1
        rw [hT]; rfl
      | true =>
        rw [hT] at hlen
        refine D.test (fun e => by rw [hlen] at e; cases e) (fun _ => D.tt hI (D.tt (by rw [hlen]; rfl) (D.bnd (at_avail a0 l hl now g hg L hL i40 hT) (fun b hb2 => ?_))))
        subst hb2
        refine D.test (fun e => D.ret ?_) (fun e => ?_)
        · show (∃ j : Nat, iAdd .i64 (i : Int) 1 = (j : Int) ∧ j ≤ R ∧ ∀ k, k < j → rBool (g k) 0 = true ∧ rBool (g k) 1 = true) ∧ R - (iAdd .i64 (i : Int) 1).toNat < R - ((i : Int)).toNat
          rw [iAdd_in (by omega) (by omega)]
          refine ⟨⟨i + 1, by omega, by omega, fun k hk => ?_⟩, by omega⟩
          by_cases hki : k = i
          · subst hki; exact ⟨hT, e⟩
          · exact hb k (by omega)
        · have hone : ordS g R Q = one1 g i := ord_1 hlt (by rw [show rBool (g i) 1 = false from e, Bool.and_false]) hb
          have hdel := at_del a0 l hl now g hg L hL i40 hT
          refine D.bnd (at_fin a0 l hl now g hg L hL i40 hT) (fun f hf => ?_)
          subst hf
          have e3 : bIte (rBool (g i) 3) (bNot (rBool (rAt (rSl (rAt L (i : Int)) 0) 0) 7)) false = (rBool (g i) 3 && !rBool (g i) 4) := by rw [hdel, bIte_and]; rfl
          refine D.test (fun e4 => D.bnd (at_key a0 l hl now g hg L hL i40 hT) (fun s hs => D.ret ?_)) (fun e4 => D.ret ?_)
          · subst hs
            show _ = ordS g R Q
            rw [hone]
            unfold one1
            rw [hT, e3.symm.trans e4]; rfl
          · show _ = ordS g R Q
            rw [hone]
            unfold one1
            rw [hT, e3.symm.trans e4]; rfl
    · exact D.test (fun e => by rw [show iLt (i : Int) (R : Int) = false from ilt_nat' hlt] at e; cases e) (fun _ => D.ret (fun k hk => hb k (by omega)))
  have hr : ∀ k, k < R → rBool (g k) 0 = true ∧ rBool (g k) 1 = true := hr
  have hL40 : rLen L = ((40 : Nat) : Int) := by rw [hL, len_map]; rfl
  rw [ord_n hr]
  have p1 : (fun k => rBool (g k) 0 && (!false || !rBool (g k) 2)) = fun k => rBool (g k) 0 := by funext k; simp
  have p2 : (fun k => rBool (g k) 0 && (!true || !rBool (g k) 2)) = pO g := by funext k; simp [pO]
  refine D.bnd (q := fun v => v = oI (hi (fun k => rBool (g k) 0) R 40)) ?_ (fun r hr => ?_)
  · show D (fun k => (ref47_highest.f k (et 41 A) L (R : Int) (rLen L) false).eval) _
    rw [hL40, ← p1]
    exact highest_val a0 ha l hl now g hg L hL _ hAA false R 40 (Nat.le_refl _)
  subst hr
  cases e1 : hi (fun k => rBool (g k) 0) R 40 with
  | some j =>
    obtain ⟨h1, h2, hT⟩ := hi_is e1
    have hT : rBool (g j) 0 = true := hT
    have hI : iIn (oI (some j)) (rLen L) = true := at_in a0 l L hL h2
    have hlen : rLen (rSl (rAt L (oI (some j))) 0) = 1 := by have := at_len a0 l hl now g hg L hL h2; rw [hT] at this; exact this
    have hdel : rBool (rAt (rSl (rAt L (oI (some j))) 0) 0) 7 = rBool (g j) 4 := at_del a0 l hl now g hg L hL h2 hT
    have hkey : D (fun k => (ref47_key.f k (et 61 (rAt (rSl (rAt L (oI (some j))) 0) 0))).eval) (fun v => v = [[V.str (rStr (g j) 5)]]) := at_key a0 l hl now g hg L hL (by omega) hT
    refine D.tt (iLe_iff.2 (by show (0 : Int) ≤ (j : Int); omega)) (D.tt hI (D.tt (by rw [hlen]; rfl) ?_))
    refine D.opt (q := fun v => rBool (g j) 4 = false → (v = true ↔ avs g 0 j)) (fun _ => ?_) (fun e h => by rw [hdel, h] at e; cases e) (fun b hb => ?_)
    · exact D.mono (available_val a0 l hl now g hg L hL _ hAA 0 j (by omega) (Nat.zero_le _)) (fun v hv _ => hv)
    · have e3 : bIte (rBool (rAt (rSl (rAt L (oI (some j))) 0) 0) 7) true (bNot b) = (rBool (g j) 4 || !b) := by rw [hdel]; cases rBool (g j) 4 <;> rfl
      refine D.test (fun e => D.ret ?_) (fun e => D.tt hI (D.tt (by rw [hlen]; rfl) (D.bnd hkey (fun s hs => D.ret ?_))))
      · have e := e3.symm.trans e
        show _ = two1 g j
        unfold two1
        rw [if_neg (fun h => by rw [(hb h.1).2 h.2, h.1] at e; cases e)]
      · have e := e3.symm.trans e
        subst hs
        show _ = two1 g j
        have h4 : rBool (g j) 4 = false := by cases h : rBool (g j) 4 with | false => rfl | true => rw [h] at e; cases e
        have hbt : b = true := by rw [h4] at e; cases b with | true => rfl | false => cases e
        unfold two1
        rw [if_pos ⟨h4, (hb h4).1 hbt⟩]
  | none =>
    refine D.test (fun e => by cases e) (fun _ => ?_)
    refine D.bnd (q := fun v => v = oI (hi (pO g) Q R)) ?_ (fun r hr => ?_)
    · rw [← p2]
      exact highest_val a0 ha l hl now g hg L hL _ hAA true Q R hR
    subst hr
    show D _ (fun v => v = thr1 g (hi (pO g) Q R))
    cases e2 : hi (pO g) Q R with
    | none => exact D.test (fun e => by cases e) (fun _ => D.ret rfl)
    | some j =>
      obtain ⟨h1, h2, hT⟩ := hi_is e2
      have hT : rBool (g j) 0 = true := (Bool.and_eq_true_iff.1 hT).1
      have hI : iIn (oI (some j)) (rLen L) = true := at_in a0 l L hL (by omega)
      have hlen : rLen (rSl (rAt L (oI (some j))) 0) = 1 := by have := at_len a0 l hl now g hg L hL (i := j) (by omega); rw [hT] at this; exact this
      have hkey : D (fun k => (ref47_key.f k (et 61 (rAt (rSl (rAt L (oI (some j))) 0) 0))).eval) (fun v => v = [[V.str (rStr (g j) 5)]]) := at_key a0 l hl now g hg L hL (by omega) hT
      refine D.tt (iLe_iff.2 (by show (0 : Int) ≤ (j : Int); omega)) (D.tt hI (D.tt (by rw [hlen]; rfl) (D.bnd hkey (fun s hs => D.ret ?_))))
      subst hs; rfl
include hg hL hl ha hA in
theorem rparallel_val (R Q : Nat) (hR : R ≤ 40) : D (fun k => (ref47_parallel.f k A L (R : Int) (Q : Int) now).eval) (fun v => v = parS g R Q) := by
  have hAA := hA2 hA
  have hL40 : rLen L = ((40 : Nat) : Int) := by rw [hL, len_map]; rfl
  refine D.bnd (q := fun v => v = (cr g R 40, rm g R 40)) ?_ (fun r hr => ?_)
  · rw [hA]
    refine D.loop (fun x : Rows × Rows × Int => ∃ n : Nat, n ≤ 40 ∧ x = (cr g R n, rm g R n, (n : Int))) (fun x => 40 - x.2.2.toNat) _ (fun x hx => ?_) _ ⟨0, Nat.zero_le _, rfl⟩
    obtain ⟨n, hn, rfl⟩ := hx
    by_cases h40 : n < 40
    · have hp := parallel_loop (g := g) (R := R) (n := n) rfl rfl
      have hI := at_in a0 l L hL h40
      have hlen := at_len a0 l hl now g hg L hL h40
      have nxt : ∀ x y, x = cr g R (n + 1) → y = rm g R (n + 1) → (∃ m : Nat, m ≤ 40 ∧ ((x, y, iAdd .i64 (n : Int) 1) : Rows × Rows × Int) = (cr g R m, rm g R m, (m : Int))) ∧ 40 - (iAdd .i64 (n : Int) 1).toNat < 40 - ((n : Int)).toNat := fun x y hx hy => by
        rw [iAdd_in (by omega) (by omega)]
        exact ⟨⟨n + 1, by omega, by rw [hx, hy]; rfl⟩, by omega⟩
      refine D.tt (by show iLt (n : Int) (rLen L) = true; rw [hL40]; exact ilt_nat h40) (D.tt hI ?_)
      cases hT : rBool (g n) 0 with
      | false =>
        rw [hT] at hlen
        refine D.tt (by rw [hlen]; rfl) (D.test (fun e => D.tt (push_ok (by decide) (Nat.le_trans cr_le (by omega))) (D.ret ?_)) (fun e => D.ret ?_))
        · exact nxt _ _ ((hp.1 hT).1 (by have := iLt_iff.1 e; simp only at this; omega)) (hp.1 hT).2.2
        · exact nxt _ _ ((hp.1 hT).2.1 (fun hn => by have := of_decide_eq_false e; simp only at this; omega)) (hp.1 hT).2.2
      | true =>
        rw [hT] at hlen
        have hdel := at_del a0 l hl now g hg L hL h40 hT
        refine D.test (fun e => by rw [hlen] at e; cases e) (fun _ => D.tt hI (D.tt (by rw [hlen]; rfl) ?_))
        refine D.opt (q := fun v => (!rBool (g n) 4 && !decide (R ≤ n)) = true → v = rBool (g n) 3) (fun _ => D.mono (at_fin a0 l hl now g hg L hL h40 hT) (fun v hv _ => hv)) (fun e h => by
          have e : bAnd (bNot (rBool (rAt (rSl (rAt L (n : Int)) 0) 0) 7)) (bNot (iLe (R : Int) (n : Int))) = false := e
          rw [hdel, ile_nat] at e
          exact absurd (h.symm.trans e) (by decide)) (fun b hb => ?_)
        have ep : bIte (bNot (rBool (rAt (rSl (rAt L (n : Int)) 0) 0) 7)) (bIte (iLe (R : Int) (n : Int)) true b) false = (!rBool (g n) 4 && (decide (R ≤ n) || rBool (g n) 3)) := by
          rw [hdel, ile_nat, bIte_and]
          cases h4 : rBool (g n) 4 with
          | true => rfl
          | false =>
            cases hd : decide (R ≤ n) with
            | true => rfl
            | false => rw [hb (by rw [h4, hd]; rfl)]; rfl
        refine D.test (fun e => D.bnd (at_key a0 l hl now g hg L hL h40 hT) (fun s hs => ?_)) (fun e => D.ret ?_)
        · subst hs
          exact D.tt (push_ok (by decide) (Nat.le_trans rm_le (by omega))) (D.ret (nxt _ _ (hp.2 hT).1 ((hp.2 hT).2.1 (ep.symm.trans e))))
        · exact nxt _ _ (hp.2 hT).1 ((hp.2 hT).2.2 (ep.symm.trans e))
    · have : n = 40 := by omega
      subst this
      exact D.test (fun e => by have e : iLt ((40 : Nat) : Int) (rLen L) = true := e; rw [hL40] at e; cases e) (fun _ => D.ret rfl)
  subst hr
  have p2 : (fun k => rBool (g k) 0 && (!true || !rBool (g k) 2)) = pO g := by funext k; simp [pO]
  refine D.bnd (q := fun v => v = oI (hi (pO g) Q R)) ?_ (fun r hr => ?_)
  · rw [← p2]
    exact highest_val a0 ha l hl now g hg L hL _ hAA true Q R hR
  subst hr
  have hc1 : rLen (cr g R 40) = ((cr g R 40).length : Int) := rfl
  have hc2 : rLen (rm g R 40) = ((rm g R 40).length : Int) := rfl
  have hz : bIte (iEq (rLen (cr g R 40)) 0) (iEq (rLen (rm g R 40)) 0) false = !decide (0 < (cr g R 40).length + (rm g R 40).length) := by
    rw [hc1, hc2, bIte_and]
    unfold iEq
    by_cases h : 0 < (cr g R 40).length + (rm g R 40).length
    · rw [decide_eq_true h]
      by_cases h1 : (cr g R 40).length = 0
      · have : ((((rm g R 40).length : Nat) : Int) == 0) = false := beq_eq_false_iff_ne.2 (by omega)
        rw [this, Bool.and_false]; rfl
      · have : ((((cr g R 40).length : Nat) : Int) == 0) = false := beq_eq_false_iff_ne.2 (by omega)
        rw [this, Bool.false_and]; rfl
    · rw [decide_eq_false h]
      have h1 : (cr g R 40).length = 0 := by omega
      have h2 : (rm g R 40).length = 0 := by omega
      rw [h1, h2]; rfl
  show D (fun k => (T.test (bImp (bIte (bIte (iEq (rLen (cr g R 40)) 0) (iEq (rLen (rm g R 40)) 0) false) (iLe 0 (oI (hi (pO g) Q R))) false) _) _ _).eval) _
  rw [hz]
  by_cases h : 0 < (cr g R 40).length + (rm g R 40).length
  · have hps : parS g R Q = (cr g R 40, rm g R 40) := by unfold parS; rw [if_pos h]
    rw [hps, decide_eq_true h]
    refine D.tt rfl (D.tt (bimp_of (fun e => ?_)) (D.opt (q := fun _ => True) (fun e => ?_) (fun _ => trivial) (fun b _ => D.test (fun e => ?_) (fun _ => D.ret rfl))))
    · cases e
    · cases e
    · cases e
  · have hps : parS g R Q = match hi (pO g) Q R with
      | none => ([], [])
      | some j => (open Classical in if rBool (g j) 4 = false ∧ avs g (j + 1) R then ([], [[.str (rStr (g j) 5)]]) else ([], [])) := by
      unfold parS
      rw [if_neg h]
      cases hi (pO g) Q R <;> rfl
    have hn1 : cr g R 40 = [] := List.eq_nil_of_length_eq_zero (by omega)
    have hn2 : rm g R 40 = [] := List.eq_nil_of_length_eq_zero (by omega)
    rw [hps, decide_eq_false h, hn1, hn2]
    cases e2 : hi (pO g) Q R with
    | none =>
      refine D.tt rfl (D.tt rfl (D.opt (q := fun _ => True) (fun e => by cases e) (fun _ => trivial) (fun b _ => D.test (fun e => by cases e) (fun _ => D.ret rfl))))
    | some j =>
      obtain ⟨h1, h2, hT⟩ := hi_is e2
      have hT : rBool (g j) 0 = true := (Bool.and_eq_true_iff.1 hT).1
      have hI : iIn (oI (some j)) (rLen L) = true := at_in a0 l L hL (by omega)
      have hlen : rLen (rSl (rAt L (oI (some j))) 0) = 1 := by have := at_len a0 l hl now g hg L hL (i := j) (by omega); rw [hT] at this; exact this
      have hdel : rBool (rAt (rSl (rAt L (oI (some j))) 0) 0) 7 = rBool (g j) 4 := at_del a0 l hl now g hg L hL (by omega) hT
      have hkey : D (fun k => (ref47_key.f k (et 61 (rAt (rSl (rAt L (oI (some j))) 0) 0))).eval) (fun v => v = [[V.str (rStr (g j) 5)]]) := at_key a0 l hl now g hg L hL (by omega) hT
      have hle : iLe 0 (oI (some j)) = true := iLe_iff.2 (by show (0 : Int) ≤ (j : Int); omega)
      have hadd : iAdd .i64 (oI (some j)) 1 = ((j + 1 : Nat) : Int) := by show iAdd .i64 (j : Int) 1 = _; rw [iAdd_in (by omega) (by omega)]; omega
      have ec : bIte (bIte (bIte (iEq (rLen ([] : Rows)) 0) (iEq (rLen ([] : Rows)) 0) false) (iLe 0 (oI (some j))) false) (bNot (rBool (rAt (rSl (rAt L (oI (some j))) 0) 0) 7)) false = !rBool (g j) 4 := by
        rw [hle, hdel]; rfl
      refine D.tt (bimp_2 _ hI) (D.tt (bimp_2 _ (by rw [hlen]; rfl)) ?_)
      refine D.opt (q := fun v => rBool (g j) 4 = false → (v = true ↔ avs g (j + 1) R)) (fun _ => ?_) (fun e h => by
        have e := ec.symm.trans e
        rw [h] at e; cases e) (fun b hb => ?_)
      · show D (fun k => (ref47_available.f k (et 41 A) L (iAdd .i64 (oI (some j)) 1) (R : Int) now).eval) _
        rw [hadd]
        exact D.mono (available_val a0 l hl now g hg L hL _ hAA (j + 1) R hR (by omega)) (fun v hv _ => hv)
      · have e3 : bIte (bIte (bIte (bIte (iEq (rLen ([] : Rows)) 0) (iEq (rLen ([] : Rows)) 0) false) (iLe 0 (oI (some j))) false) (bNot (rBool (rAt (rSl (rAt L (oI (some j))) 0) 0) 7)) false) b false = (!rBool (g j) 4 && b) := by
          rw [ec, bIte_and]
        refine D.test (fun e => D.tt hI (D.tt (by rw [hlen]; rfl) (D.bnd hkey (fun s hs => D.ret ?_)))) (fun e => D.ret ?_)
        · have e := Bool.and_eq_true_iff.1 (e3.symm.trans e)
          subst hs
          have h4 : rBool (g j) 4 = false := by have := e.1; cases h : rBool (g j) 4 with | false => rfl | true => rw [h] at this; cases this
          exact (if_pos ⟨h4, (hb h4).1 e.2⟩).symm
        · have e := e3.symm.trans e
          exact (if_neg (fun h => by
            rw [(hb h.1).2 h.2, h.1] at e
            cases e)).symm
end
theorem clamp_is (a b : Int) : D (fun k => (ref01_Clamp.f k a 0 b).eval) (fun v => v = iMin (iMax a 0) b) := D.mono (ref01_Clamp.val _ _ _) (fun v hv => hv.1)
theorem rplan_eq (a0 : Row) (ha : Br a0) (l : Rows) (hl : Brs l) (now : Int) (R Q : Nat) (hR : R ≤ 40) (h1 : iMin (iMax (rInt a0 13) 0) 40 = (R : Int)) (g1 : iMin (iMax (rInt a0 14) 0) (iMin (iMax (rInt a0 13) 0) 40) = (Q : Int)) :
    D (fun k => (ref47_Plan.f k a0 l now).eval) (fun v => v = planS a0 (slt a0 l now (hsh (eo 37 a0 18))) R Q) := by
  rw [h1] at g1
  refine D.test (fun e => D.ret ?_) (fun e0 => ?_)
  · show _ = planS a0 _ R Q
    unfold planS
    rw [if_pos e]
  have e0 : rBool a0 7 = false := e0
  refine D.bnd (clamp_is _ _) (fun r hr => ?_)
  rw [h1] at hr
  subst hr
  refine D.bnd (clamp_is _ _) (fun r hr => ?_)
  rw [g1] at hr
  subst hr
  have hps : planS a0 (slt a0 l now (hsh (eo 37 a0 18))) R Q = (open Classical in if rBool a0 16 = true then parS (slt a0 l now (hsh (eo 37 a0 18))) R Q else ordS (slt a0 l now (hsh (eo 37 a0 18))) R Q) := by
    unfold planS
    rw [if_neg (by rw [e0]; decide)]
  rw [hps]
  have hA1 : et 41 (et 41 a0) = et 41 a0 := by kernel_rfl
  refine D.test (fun e => ?_) (fun e => ?_)
  · rw [if_pos e]
    refine D.bnd (q := fun v => v = (List.range 40).map (prw a0 l)) (pods_val (et 41 a0) (Br.eta ha _) l hl) (fun r hr => ?_)
    exact D.bnd (q := fun v => v = parS (slt a0 l now (hsh (eo 37 a0 18))) R Q) (rparallel_val a0 ha l hl now _ rfl r hr _ hA1 R Q hR) (fun r hr => D.ret hr)
  · rw [if_neg (by have e : rBool a0 16 = false := e; rw [e]; decide)]
    refine D.bnd (q := fun v => v = (List.range 40).map (prw a0 l)) (pods_val (et 41 a0) (Br.eta ha _) l hl) (fun r hr => ?_)
    exact D.bnd (q := fun v => v = ordS (slt a0 l now (hsh (eo 37 a0 18))) R Q) (rordered_val a0 ha l hl now _ rfl r hr _ hA1 R Q hR) (fun r hr => D.ret hr)
end
end Go.Proofs.YtolackmpfnndhaaGreatDoor.Ev
