/- Stateful sets: the law StatefulsetScales. Conditions: stated at each. -/
import Derived.Test.YtolackmpfnndhaaGreatDoorLo
namespace Go.Proofs.YtolackmpfnndhaaGreatDoor.Ev
open Go Go.RowKit
set_option linter.unusedVariables false
set_option maxRecDepth 100000
noncomputable section
theorem dig_inj : ∀ i : Fin 40, ∀ j : Fin 40, strconv_Itoa.dgs 24 i.1 = strconv_Itoa.dgs 24 j.1 → i = j := by decide +kernel
theorem dig_no : ∀ i : Fin 40, (strconv_Itoa.dgs 24 i.1).all (fun c => !(c == 45)) = true := by decide +kernel
theorem take_rev {d A : List UInt8} (h : d.all (fun c => !(c == 45)) = true) : (A ++ 45 :: d).reverse.takeWhile (fun c => !(c == 45)) = d.reverse := by
  rw [List.reverse_append, List.reverse_cons, List.append_assoc]
  have h1 : ∀ x, x ∈ d.reverse → (fun c : UInt8 => !(c == 45)) x = true := fun x hx => List.all_eq_true.1 h x (List.mem_reverse.1 hx)
  rw [List.takeWhile_append_of_pos h1]
  simp
theorem scat_list (a b : ByteArray) : (sCat a b).data.toList = a.data.toList ++ b.data.toList := by
  show (a ++ b).data.toList = _
  simp
/-- Keys of pods of different ordinals differ. -/
theorem key_inj {K K' s : ByteArray} {i j : Nat} (hi : i < 40) (hj : j < 40) (h : sCat K (nmc s i) = sCat K' (nmc s j)) : i = j := by
  have e : ∀ n : Nat, n < 40 → ∀ X : ByteArray, ∃ A : List UInt8, (sCat X (nmc s n)).data.toList = A ++ 45 :: strconv_Itoa.dgs 24 n := fun n hn X => by
    unfold nmc
    rw [scat_list, scat_list, scat_list, ← strconv_Itoa.dgs_eq 24 n (by omega)]
    exact ⟨X.data.toList ++ (sCut s 0 (iMin (sLen s) (iSub .i64 40 (sLen (sCat (bs [45]) (bo (strconv_Itoa.dgs 24 n))))))).data.toList, by
      rw [List.append_assoc]; rfl⟩
  obtain ⟨A, hA⟩ := e i hi K
  obtain ⟨B, hB⟩ := e j hj K'
  have h1 : A ++ 45 :: strconv_Itoa.dgs 24 i = B ++ 45 :: strconv_Itoa.dgs 24 j := by rw [← hA, ← hB, h]
  have h2 := take_rev (A := A) (dig_no ⟨i, hi⟩)
  have h3 := take_rev (A := B) (dig_no ⟨j, hj⟩)
  rw [h1] at h2
  have h4 := h2.symm.trans h3
  have h5 := List.reverse_inj.1 h4
  have h6 := dig_inj ⟨i, hi⟩ ⟨j, hj⟩ h5
  exact congrArg Fin.val h6
theorem has_one (s n : ByteArray) : D (fun k => (ref10_Has.f k [[.str s]] n).eval) (fun v => v = sEq s n) := by
  refine D.cas (q := fun v => v = bif sEq s n then .inl true else .inr ()) ?_ (fun r hr => D.ret ?_) (fun r hr => D.ret ?_)
  · refine D.loop (fun x : Int => x = 0 ∨ (x = 1 ∧ sEq s n = false)) (fun x => 1 - x.toNat) _ (fun x hx => ?_) 0 (Or.inl rfl)
    rcases hx with rfl | ⟨rfl, hs⟩
    · refine D.tt rfl (D.tt rfl (D.test (fun e => D.ret ?_) (fun e => D.ret ?_)))
      · have e : sEq s n = true := e
        show Sum.inl true = _
        rw [e]; rfl
      · show (iAdd .i64 0 1 = 0 ∨ (iAdd .i64 0 1 = 1 ∧ sEq s n = false)) ∧ 1 - (iAdd .i64 0 1).toNat < 1 - (0 : Int).toNat
        rw [iAdd_in (by decide) (by decide)]; exact ⟨Or.inr ⟨rfl, e⟩, by decide⟩
    · refine D.test (fun e => by cases e) (fun _ => D.ret ?_)
      show Sum.inr () = _
      rw [hs]; rfl
  · cases hs : sEq s n with
    | true => rw [hs] at hr; injection hr
    | false => rw [hs] at hr; cases hr
  · cases hs : sEq s n with
    | true => rw [hs] at hr; cases hr
    | false => rfl
theorem has_nil (n : ByteArray) : D (fun k => (ref10_Has.f k [] n).eval) (fun v => v = false) := by
  refine D.cas (q := fun v => v = .inr ()) (D.loop (fun x : Int => x = 0) (fun _ => 0) _ (fun x hx => ?_) 0 rfl) (fun r hr => by cases hr) (fun r hr => D.ret rfl)
  subst hx
  exact D.test (fun e => by cases e) (fun _ => D.ret rfl)
theorem key_eq47 {a0 p : Row} {n : ByteArray} (h : rStr p 2 = n) : ∃ K, meta_KeyOf.v (et 27 (et 61 p)) = sCat K n ∧ ref13_KeyOf.v (et 27 (et 61 p)) = sCat K n := by
  subst h
  exact ⟨sCat (sCat (sCat (rStr p 0) (bs [47])) (rStr p 1)) (bs [47]), by kernel_rfl, by kernel_rfl⟩
theorem scales_inner (a0 : Row) (l : Rows) (rm : Rows) (R Q i : Nat) (hi : i < 40) (h : R ≤ i → ∀ k, i < k → k < 40 → prw a0 l k = z54) :
    D (fun k => iter (law47_StatefulsetScales.s14 k rm ((List.range 40).map (prw a0 l)) (R : Int) (Q : Int) (i : Int)) k (iAdd .i64 (i : Int) 1)) (fun v => v = .inr ()) := by
  refine D.loop (fun x : Int => ∃ j : Nat, x = (j : Int) ∧ i < j ∧ j ≤ 40) (fun x => 40 - x.toNat) _ (fun x hx => ?_) _ ⟨i + 1, by rw [iAdd_in (by omega) (by omega)]; omega, by omega, by omega⟩
  obtain ⟨j, rfl, h1, h2⟩ := hx
  refine D.test (fun e => ?_) (fun _ => D.ret rfl)
  have e : bIte (iLt (j : Int) (rLen ((List.range 40).map (prw a0 l)))) (iLe (R : Int) (i : Int)) false = true := e
  rw [len_map] at e
  have e1 : (j : Int) < 40 := iLt_iff.1 (and_l e)
  have e2 : (R : Int) ≤ (i : Int) := iLe_iff.1 (and_r e)
  have hz := h (by omega) j h1 (by omega)
  have hat := rat_map (prw a0 l) j (by omega)
  rw [hz] at hat
  refine D.tt (by rw [len_map]; exact decide_eq_true ⟨by omega, by omega⟩) (D.test (fun e3 => ?_) (fun _ => D.ret ?_))
  · have e3 : iLt 0 (rLen (rSl (rAt ((List.range 40).map (prw a0 l)) (j : Int)) 0)) = true := e3
    rw [hat] at e3; cases e3
  · show (∃ j' : Nat, iAdd .i64 (j : Int) 1 = (j' : Int) ∧ i < j' ∧ j' ≤ 40) ∧ 40 - (iAdd .i64 (j : Int) 1).toNat < 40 - ((j : Int)).toNat
    rw [iAdd_in (by omega) (by omega)]
    exact ⟨⟨j + 1, by omega, by omega, by omega⟩, by omega⟩
theorem scales_loop (a0 : Row) (l : Rows) (hl : Brs l) (now : Int) (h : ByteArray) (R Q : Nat) (hQ : Q ≤ R) (v : Rows × Rows) (hv : Stp (slt a0 l now h) R Q v) :
    D (fun k => iter (law47_StatefulsetScales.s8 k v.2 ((List.range 40).map (prw a0 l)) (R : Int) (Q : Int)) k 0) (fun v => v = .inr ()) := by
  refine D.loop (fun x : Int => ∃ i : Nat, x = (i : Int) ∧ i ≤ 40) (fun x => 40 - x.toNat) _ (fun x hx => ?_) _ ⟨0, rfl, Nat.zero_le _⟩
  obtain ⟨i, rfl, hi⟩ := hx
  by_cases h40 : i < 40
  · have hin : iIn (i : Int) (rLen ((List.range 40).map (prw a0 l))) = true := by rw [len_map]; exact decide_eq_true ⟨by omega, by omega⟩
    have hat := rat_map (prw a0 l) i h40
    have nxt : (∃ j : Nat, iAdd .i64 (i : Int) 1 = (j : Int) ∧ j ≤ 40) ∧ 40 - (iAdd .i64 (i : Int) 1).toNat < 40 - ((i : Int)).toNat := by
      rw [iAdd_in (by omega) (by omega)]
      exact ⟨⟨i + 1, by omega, by omega⟩, by omega⟩
    refine D.tt (iLt_iff.2 (by rw [len_map]; omega)) (D.tt hin (D.tt (bimp_2 _ hin) ?_))
    cases hf : fnd a0 l (nmc (rStr a0 2) i) with
    | none =>
      have hz : prw a0 l i = z54 := by unfold prw; rw [hf]
      rw [hz] at hat
      refine D.tt (bimp_of (fun e => by rw [hat] at e; cases e)) ?_
      refine D.opt (q := fun _ => True) (fun e => by rw [hat] at e; cases e) (fun _ => trivial) (fun r0 _ => D.opt (q := fun _ => True) (fun e => by rw [hat] at e; cases e) (fun _ => trivial) (fun r1 _ => D.tt ?_ (D.ret nxt)))
      show bIte (iEq (rLen (rSl (rAt ((List.range 40).map (prw a0 l)) (i : Int)) 0)) 0) true (bNot r1) = true
      rw [hat]; rfl
    | some p =>
      have hz : prw a0 l i = [.slice 61 [et 61 p] (.fullq false)] := by unfold prw; rw [hf]
      rw [hz] at hat
      obtain ⟨hp1, hp2, hp3⟩ := fnd_mem hf
      have hbp := hl.2 p hp1
      obtain ⟨K, hk1, hk2⟩ := key_eq47 (a0 := a0) hp3
      have hrow : rAt (rSl (rAt ((List.range 40).map (prw a0 l)) (i : Int)) 0) 0 = et 61 p := by rw [hat]; rfl
      have hin0 : iIn 0 (rLen (rSl (rAt ((List.range 40).map (prw a0 l)) (i : Int)) 0)) = true := by rw [hat]; rfl
      refine D.tt (bimp_2 _ hin0) ?_
      refine D.opt (q := fun v => v = sCat K (nmc (rStr a0 2) i)) (fun _ => ?_) (fun e => by rw [hat] at e; cases e) (fun r0 h0 => ?_)
      · refine D.of_eq (G := fun k => (ref13_KeyOf.f k (et 27 (et 61 p))).eval) (fun k => by rw [hrow]) ?_
        exact D.mono (ref13_KeyOf.val _ (Br.eta (Br.eta hbp _) _)) (fun v hv => by rw [hv.1, hk2])
      subst h0
      have fin : ∀ r1 : Bool, (r1 = true → (((i < R ∧ (bIte (iEq (rInt (et 61 p) 23) 2) true (iEq (rInt (et 61 p) 23) 3)) = true)) ∨ (R ≤ i ∧ ∀ k, i < k → k < 40 → prw a0 l k = z54) ∨ (Q ≤ i ∧ i < R))) →
          D (fun k => (T.test (bIte (iEq (rLen (rSl (rAt ((List.range 40).map (prw a0 l)) (i : Int)) 0)) 0) true (bNot r1)) (.ret (.inl (iAdd .i64 (i : Int) 1)))
            (.test (bImp (iLt (i : Int) (Q : Int)) (iIn (i : Int) (rLen ((List.range 40).map (prw a0 l)))))
              (.test (bImp (iLt (i : Int) (Q : Int)) (iIn 0 (rLen (rSl (rAt ((List.range 40).map (prw a0 l)) (i : Int)) 0))))
                (.opt (iLt (i : Int) (Q : Int)) (ref47_Finished.f k (et 61 (rAt (rSl (rAt ((List.range 40).map (prw a0 l)) (i : Int)) 0) 0))).eval default fun r2 =>
                  .test (bIte (iLt (i : Int) (Q : Int)) (bNot r2) false) (.ret (.inr (.inl false)))
                    (.cas (iter (law47_StatefulsetScales.s14 k v.2 ((List.range 40).map (prw a0 l)) (R : Int) (Q : Int) (i : Int)) k (iAdd .i64 (i : Int) 1)) (fun r3 => .ret (.inr (.inl r3))) (fun r4 => .ret (.inl (iAdd .i64 (i : Int) 1))))) .fail) .fail) : T (Int ⊕ (Bool ⊕ Unit))).eval) (fun v => match v with | .inl y => (∃ j : Nat, y = (j : Int) ∧ j ≤ 40) ∧ 40 - y.toNat < 40 - ((i : Int)).toNat | .inr r => r = .inr ()) := fun r1 hr1 => by
        refine D.test (fun _ => D.ret nxt) (fun e => ?_)
        have e1 : r1 = true := bnot_f (or_r e)
        have hc := hr1 e1
        refine D.tt (bimp_2 _ hin) (D.tt (bimp_2 _ hin0) ?_)
        refine D.opt (q := fun w => i < Q → w = bIte (iEq (rInt (et 61 p) 23) 2) true (iEq (rInt (et 61 p) 23) 3)) (fun _ => ?_) (fun e2 hq => ?_) (fun r2 h2 => ?_)
        · refine D.of_eq (G := fun k => (ref47_Finished.f k (et 61 (et 61 p))).eval) (fun k => by rw [hrow]) ?_
          exact D.mono (ref47_Finished.val _) (fun v hv _ => by rw [hv.1]; rfl)
        · have := of_decide_eq_false e2; omega
        · refine D.test (fun e3 => ?_) (fun _ => ?_)
          · exfalso
            have e4 : i < Q := by have := iLt_iff.1 (and_l e3); omega
            have e5 := h2 e4
            rcases hc with ⟨_, hc⟩ | ⟨hc, _⟩ | ⟨hc, _⟩
            · rw [hc] at e5
              have e6 := and_r e3
              rw [e5] at e6; cases e6
            · omega
            · omega
          · refine D.cas (scales_inner a0 l v.2 R Q i h40 (fun hR k hk hk2 => ?_)) (fun r hr => by cases hr) (fun r _ => D.ret nxt)
            rcases hc with ⟨hc, _⟩ | ⟨_, hc⟩ | ⟨_, hc⟩
            · omega
            · exact hc k hk hk2
            · omega
      rcases hv with ⟨c, rfl, _⟩ | rfl | ⟨j, rfl, hj, hth, hcase⟩
      · refine D.opt (q := fun v => v = false) (fun _ => has_nil _) (fun e => by rw [hat] at e; cases e) (fun r1 h1 => ?_)
        exact D.mono (fin r1 (fun e => by rw [h1] at e; cases e)) (fun v hv => by cases v <;> exact hv)
      · refine D.opt (q := fun v => v = false) (fun _ => has_nil _) (fun e => by rw [hat] at e; cases e) (fun r1 h1 => ?_)
        exact D.mono (fin r1 (fun e => by rw [h1] at e; cases e)) (fun v hv => by cases v <;> exact hv)
      · obtain ⟨p', hf', hs', _⟩ := slt_pod hth
        obtain ⟨_, _, hp3'⟩ := fnd_mem hf'
        obtain ⟨K', hk1', _⟩ := key_eq47 (a0 := a0) hp3'
        have hky : rStr (slt a0 l now h j) 5 = sCat K' (nmc (rStr a0 2) j) := by rw [hs', ← hk1']; rfl
        refine D.opt (q := fun v => v = sEq (rStr (slt a0 l now h j) 5) (sCat K (nmc (rStr a0 2) i))) (fun _ => has_one _ _) (fun e => by rw [hat] at e; cases e) (fun r1 h1 => ?_)
        refine D.mono (fin r1 (fun e => ?_)) (fun v hv => by cases v <;> exact hv)
        rw [e, hky] at h1
        have hij := key_inj hj h40 (sEq_iff.1 h1.symm)
        subst hij
        rw [hf] at hf'
        injection hf' with hf'
        subst hf'
        rcases hcase with ⟨h1, h2⟩ | ⟨h1, h2⟩ | ⟨h1, h2⟩
        · rw [hs'] at h2
          exact Or.inl ⟨h1, h2⟩
        · exact Or.inr (Or.inl ⟨h1, fun k hk hk2 => slt_none (h2 k hk hk2)⟩)
        · exact Or.inr (Or.inr ⟨h1, h2⟩)
  · exact D.test (fun e => by have := iLt_iff.1 e; rw [len_map] at this; omega) (fun _ => D.ret rfl)
theorem law47_StatefulsetScales.true_ (a0 : Row) (l : Rows) (now : Int) (ha : Br a0) (hl : Brs l) : D (fun k => (law47_StatefulsetScales.f k a0 l now).eval) (fun v => v = true) := by
  refine D.bnd (heavy_any _ _ hl) (fun r0 _ => D.test (fun _ => D.bnd lv_true (fun r hr => D.ret hr)) (fun e => ?_))
  have hp : rBool a0 16 = false := or_r e
  obtain ⟨R, Q, hR, hR1, hQ1, hR2, hD⟩ := plan_val (et 41 a0) (Br.eta ha _) l hl now hp
  refine D.bnd hD (fun v hv => ?_)
  refine D.bnd (q := fun v => v = (List.range 40).map (prw a0 l)) (pods_val (et 41 a0) (Br.eta ha _) l hl) (fun r hr => ?_)
  subst hr
  have hR1 : (R : Int) = iMin (iMax (rInt a0 13) 0) 40 := hR1
  have hQ1 : (Q : Int) = iMin (iMax (rInt a0 14) 0) (iMin (iMax (rInt a0 13) 0) 40) := hQ1
  refine D.bnd (q := fun v => v = (R : Int)) (D.ret hR1.symm) (fun r hr => ?_)
  subst hr
  refine D.bnd (q := fun v => v = (Q : Int)) (D.ret (by show iMin (iMax (rInt a0 14) 0) (R : Int) = _; rw [hR1]; exact hQ1.symm)) (fun r hr => ?_)
  subst hr
  have hQR : Q ≤ R := by
    rw [← hR1] at hQ1
    unfold iMin at hQ1
    split at hQ1 <;> omega
  exact D.cas (scales_loop a0 l hl now (hsh (eo 37 (et 41 a0) 18)) R Q hQR v hv) (fun r hr => by cases hr) (fun r _ => D.bnd lv_true (fun r hr => D.ret hr))
end
end Go.Proofs.YtolackmpfnndhaaGreatDoor.Ev
