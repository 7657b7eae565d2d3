/- Stateful sets: names, slots, and the pods of the ordinals. Conditions: stated at each. -/
import Derived.Test.YtolackmpfnndhaaGreatDoorVa
import Derived.Test.YtolackmpfnndhaaGreatDoorMp
import Derived.Test.YtolackmpfnndhaaGreatDoorJu
namespace Go.Proofs.YtolackmpfnndhaaGreatDoor.Ev
open Go Go.RowKit
set_option linter.unusedVariables false
set_option maxRecDepth 100000
noncomputable section
def zs : Row := [.bool false, .bool false, .bool false, .bool false, .bool false, .str ByteArray.empty, .str ByteArray.empty, .str ByteArray.empty, .str ByteArray.empty, .int .i64 (0), .int .i64 (0), .int .i64 (0), .int .i64 (0), .bool false, .int .i64 (0), .slice 89 [] .open, .slice 86 [] .open, .slice 9 [] .open, .slice 229 [] .open, .str ByteArray.empty, .int .i64 (0), .int .i64 (0), .int .i64 (0), .slice 164 [] .open, .slice 168 [] .open, .slice 172 [] .open, .slice 176 [] .open, .slice 180 [] .open, .slice 184 [] .open, .int .i64 (0), .bool false, .int .i64 (0), .int .i64 (0), .int .i64 (0), .slice 231 [] .open, .int .i64 (0), .str ByteArray.empty, .str ByteArray.empty]
theorem rdigits_val (u : Nat) (hu : u ≤ 9223372036854775807) : D (fun k => (ref13_digits.f k (u : Int)).eval) (fun v => v = bo (Lib.decDigits u)) := by
  have hlen := dec_le u hu
  refine D.tt rfl (D.bnd (q := fun v => v = bo (Lib.decDigits u)) (D.loop (fun x : Int × ByteArray => ∃ (n : Nat) (t : List UInt8), x = ((n : Int), bo t) ∧ n ≤ u ∧ rst n ++ t = Lib.decDigits u) (fun x => x.1.toNat) _ (fun x hx => ?_) _ ⟨u, [UInt8.ofNat (48 + u % 10)], ?_, Nat.le_refl _, (dec_rst u).symm⟩) (fun r h => by subst h; exact D.ret rfl))
  · obtain ⟨n, t, rfl, hn, ht⟩ := hx
    have htl : t.length ≤ 30 := by have := congrArg List.length ht; rw [List.length_append] at this; omega
    by_cases h : n < 10
    · refine D.test (fun e => by have := iLe_iff.1 e; simp only at this; omega) (fun _ => D.ret ?_)
      show bo t = _
      have : rst n = [] := by unfold rst; rw [if_pos h]
      rw [← ht, this]; rfl
    · have h10 : n / 10 % 10 < 10 := Nat.mod_lt _ (by decide)
      have e1 : sRows [[.int .u8 (iCv .u8 (iAdd .i64 48 (iRem (iQuo .i64 (n : Int) 10) 10)))]] = bo [UInt8.ofNat (48 + n / 10 % 10)] := by
        rw [quo_nat n (by omega), rem_nat, dg_row _ h10]
      refine D.tt (iLe_iff.2 (by simp only; omega)) (D.tt rfl (D.tt rfl (D.tt ?_ (D.ret ?_))))
      · show sOk (sLen (sRows [[.int .u8 (iCv .u8 (iAdd .i64 48 (iRem (iQuo .i64 (n : Int) 10) 10)))]])) (sLen (bo t)) = true
        rw [e1]; exact sok_bo (by simp only [List.length_append, List.length_cons, List.length_nil]; omega)
      · refine ⟨⟨n / 10, UInt8.ofNat (48 + n / 10 % 10) :: t, ?_, by omega, ?_⟩, ?_⟩
        · show (iQuo .i64 (n : Int) 10, sCat (sRows [[.int .u8 (iCv .u8 (iAdd .i64 48 (iRem (iQuo .i64 (n : Int) 10) 10)))]]) (bo t)) = _
          rw [e1, bo_cat, quo_nat n (by omega)]; rfl
        · have h2 : rst n = rst (n / 10) ++ [UInt8.ofNat (48 + n / 10 % 10)] := by
            rw [← dec_rst]; unfold rst; rw [if_neg h]
          rw [← ht, h2, List.append_assoc]; rfl
        · show (iQuo .i64 (n : Int) 10).toNat < ((n : Int)).toNat
          rw [quo_nat n (by omega)]; omega
  · show ((u : Int), sRows [[.int .u8 (iCv .u8 (iAdd .i64 48 (iRem (u : Int) 10)))]]) = _
    rw [rem_nat, dg_row _ (Nat.mod_lt _ (by decide))]


/-- The name of an ordinal. -/
def nmc (s : ByteArray) (i : Nat) : ByteArray := sCat (sCut s 0 (iMin (sLen s) (iSub .i64 40 (sLen (sCat (bs [45]) (bo (Lib.decDigits i))))))) (sCat (bs [45]) (bo (Lib.decDigits i)))
theorem nmc_ok (s : ByteArray) (hs : s.size ≤ 1048576) (i : Nat) (hi : i ≤ 9223372036854775807) :
    sOk (sLen (bs [45])) (sLen (bo (Lib.decDigits i))) = true ∧ iCut 0 (iMin (sLen s) (iSub .i64 40 (sLen (sCat (bs [45]) (bo (Lib.decDigits i)))))) (sLen s) = true ∧
    sOk (sLen (sCut s 0 (iMin (sLen s) (iSub .i64 40 (sLen (sCat (bs [45]) (bo (Lib.decDigits i)))))))) (sLen (sCat (bs [45]) (bo (Lib.decDigits i)))) = true := by
  have hd := dec_le i (by omega)
  have e1 : sCat (bs [45]) (bo (Lib.decDigits i)) = bo (45 :: Lib.decDigits i) := bo_cat [45] _
  rw [e1]
  refine ⟨sok_bo (a := [45]) (by simp only [List.length_cons, List.length_nil]; omega), ?_, ?_⟩
  · rw [bo_len, List.length_cons, iSub_in (by omega) (by omega)]
    unfold iCut iMin sLen
    refine decide_eq_true ?_
    split <;> omega
  · refine sOk_sz (n := 1048576) (m := 40) (sz_cut hs _ _) ?_ (by decide)
    have := bo_len (45 :: Lib.decDigits i)
    unfold sLen at this
    rw [List.length_cons] at this
    omega
theorem imax_nat (i : Nat) : iMax (i : Int) 0 = (i : Int) := by unfold iMax; rw [if_neg (by omega)]
theorem child_val (s : ByteArray) (hs : s.size ≤ 1048576) (i : Nat) (hi : i ≤ 9223372036854775807) : D (fun k => (meta_Child.f k s (i : Int)).eval) (fun v => v = nmc s i) := by
  obtain ⟨h1, h2, h3⟩ := nmc_ok s hs i hi
  refine D.bnd (q := fun v => v = bo (Lib.decDigits i)) ?_ (fun r hr => ?_)
  · show D (fun k => (strconv_Itoa.f k (iMax (i : Int) 0)).eval) _
    rw [imax_nat]
    refine D.tt (Bool.and_eq_true_iff.2 ⟨decide_eq_true (by omega), decide_eq_true (by omega)⟩) (D.ret ?_)
    have e : strconv_Itoa.itz (i : Int) = Lib.decDigits i := by
      rw [← strconv_Itoa.itz_eq _ (by omega) (by omega)]
      unfold Lib.itoa
      rw [if_neg (by omega)]; rfl
    rw [e]; rfl
  · subst hr
    exact D.tt h1 (D.tt h2 (D.tt h3 (D.ret rfl)))
theorem rchild_val (s : ByteArray) (hs : s.size ≤ 1048576) (i : Nat) (hi : i ≤ 9223372036854775807) : D (fun k => (ref13_Child.f k s (i : Int)).eval) (fun v => v = nmc s i) := by
  obtain ⟨h1, h2, h3⟩ := nmc_ok s hs i hi
  refine D.bnd (q := fun v => v = bo (Lib.decDigits i)) ?_ (fun r hr => ?_)
  · show D (fun k => (ref13_digits.f k (iMax (i : Int) 0)).eval) _
    rw [imax_nat]; exact rdigits_val i (by omega)
  · subst hr
    exact D.tt h1 (D.tt h2 (D.tt h3 (D.ret rfl)))
theorem name_val47 (a0 : Row) (ha : Br a0) (i : Nat) (hi : i ≤ 9223372036854775807) : D (fun k => (statefulset_Name.f k a0 (i : Int)).eval) (fun v => v = nmc (rStr a0 2) i) :=
  D.bnd (child_val _ (ha.str 2) i hi) (fun r hr => by subst hr; exact D.ret rfl)
theorem rname_val47 (a0 : Row) (ha : Br a0) (i : Nat) (hi : i ≤ 9223372036854775807) : D (fun k => (ref47_Name.f k a0 (i : Int)).eval) (fun v => v = nmc (rStr a0 2) i) :=
  D.bnd (rchild_val _ (ha.str 2) i hi) (fun r hr => by subst hr; exact D.ret rfl)
/-- The set controls the pod. -/
def ctl (a0 p : Row) : Bool := ref44_Controls.v (et 27 (et 41 a0)) (et 61 p)
/-- The first pod of a name that the set controls. -/
def fnd (a0 : Row) (l : Rows) (n : ByteArray) : Option Row := l.find? fun p => ctl a0 p && sEq (rStr p 2) n
theorem ctl_eq (a0 p : Row) : bIte (bIte (meta_Controller.v (et 27 p)).2 (iEq (rInt (meta_Controller.v (et 27 p)).1 2) (rInt (et 41 a0) 3)) false) (sEq (rStr p 1) (rStr (et 41 a0) 1)) false = ctl a0 p := by kernel_rfl
theorem fnd_snoc (a0 : Row) (l : Rows) (p : Row) (n : ByteArray) : fnd a0 (l ++ [p]) n = (fnd a0 l n).or (bif ctl a0 p && sEq (rStr p 2) n then some p else none) := by
  unfold fnd
  rw [List.find?_append]
  congr 1
/-- What the map by names says. -/
def ByN (a0 : Row) (l : Rows) (m : Rows) : Prop := ∀ n z, mHas m n = (fnd a0 l n).isSome ∧ mGet m n z = ((fnd a0 l n).map (et 61)).getD z
theorem byN_step {a0 : Row} {l m : Rows} {p : Row} (h : ByN a0 l m) : ByN a0 (l ++ [p]) (bif ctl a0 p && !(mHas m (rStr p 2)) then mSet m (rStr p 2) (et 61 p) else m) := by
  intro n z
  rw [fnd_snoc]
  obtain ⟨h1, h2⟩ := h n z
  cases hc : ctl a0 p with
  | false => simp only [Bool.false_and, cond_false, Option.or_none]; exact ⟨h1, h2⟩
  | true =>
    cases hs : sEq (rStr p 2) n with
    | true =>
      have e := sEq_iff.1 hs
      subst e
      cases hm : mHas m (rStr p 2) with
      | true =>
        rw [hm] at h1
        obtain ⟨q, hq⟩ := Option.isSome_iff_exists.1 h1.symm
        rw [hq] at h2 ⊢
        simp only [Bool.true_and, Bool.not_true, cond_false]
        exact ⟨hm.trans rfl, h2⟩
      | false =>
        rw [hm] at h1
        have hq : fnd a0 l (rStr p 2) = none := Option.isNone_iff_eq_none.1 (by cases hx : fnd a0 l (rStr p 2) with | none => rfl | some q => rw [hx] at h1; cases h1)
        rw [hq]
        simp only [Bool.true_and, Bool.not_false, cond_true]
        rw [mSet_has, mSet_get, hs]
        exact ⟨rfl, rfl⟩
    | false =>
      cases hm : mHas m (rStr p 2) with
      | true => simp only [Bool.true_and, Bool.not_true, cond_false, Option.or_none]; exact ⟨h1, h2⟩
      | false =>
        simp only [Bool.true_and, Bool.not_false, cond_true, cond_false, Option.or_none]
        rw [mSet_has, mSet_get, hs]
        exact ⟨h1, h2⟩
theorem map_by (a0 : Row) (ha : Br a0) (l : Rows) (hl : Brs l) (c : Int) : D (fun k => iter (statefulset_slots.s3 k c l (rLen l) (et 41 a0)) k (0, [])) (ByN a0 l) := by
  refine D.loop (fun x : Int × Rows => 0 ≤ x.1 ∧ x.1.toNat ≤ l.length ∧ ByN a0 (l.take x.1.toNat) x.2) (fun x => l.length - x.1.toNat) _ (fun x hx => ?_) _ ⟨Int.le_refl _, Nat.zero_le _, fun n z => ⟨rfl, rfl⟩⟩
  obtain ⟨i, m⟩ := x
  obtain ⟨h1, h2, h3⟩ := hx
  simp only at h1 h2 h3
  obtain ⟨i, rfl⟩ : ∃ j : Nat, i = j := ⟨i.toNat, by omega⟩
  rw [Int.toNat_natCast] at h2 h3
  have hlb := hl.1
  by_cases hi : i < l.length
  · have hp : rAt l (i : Int) = l[i] := by rw [rAt_nat, List.getD_eq_getElem?_getD, List.getElem?_eq_getElem hi]; rfl
    have hm : l[i] ∈ l := List.getElem_mem hi
    refine D.tt (ilt_nat hi) (D.tt (iin_nat hi) (D.bnd (q := fun v => v = meta_Controller.v (et 27 (rAt l (i : Int)))) (D.mono (meta_Controller.val _ (Br.eta (hl.at _) _)) (fun v hv => hv.1)) (fun r hr => ?_)))
    subst hr
    have ec : bIte (bIte (bIte (meta_Controller.v (et 27 (rAt l (i : Int)))).2 (iEq (rInt (meta_Controller.v (et 27 (rAt l (i : Int)))).1 2) (rInt (et 41 a0) 3)) false) (sEq (rStr (rAt l (i : Int)) 1) (rStr (et 41 a0) 1)) false) (bNot (mHas m (rStr (rAt l (i : Int)) 2))) false = (ctl a0 l[i] && !(mHas m (rStr l[i] 2))) := by
      rw [ctl_eq, bIte_and, hp]; rfl
    have hstep := byN_step (p := l[i]) h3
    have fin : ∀ m', (bif ctl a0 l[i] && !(mHas m (rStr l[i] 2)) then mSet m (rStr l[i] 2) (et 61 l[i]) else m) = m' → (0 ≤ iAdd .i64 (i : Int) 1 ∧ (iAdd .i64 (i : Int) 1).toNat ≤ l.length ∧ ByN a0 (l.take (iAdd .i64 (i : Int) 1).toNat) m') ∧ l.length - (iAdd .i64 (i : Int) 1).toNat < l.length - i := fun m' he => by
      rw [iAdd_in (by omega) (by omega)]
      have e0 : ((i : Int) + 1).toNat = i + 1 := by omega
      rw [e0]
      refine ⟨⟨by omega, by omega, ?_⟩, by omega⟩
      rw [List.take_succ_eq_append_getElem hi, ← he]; exact hstep
    refine D.test (fun e => D.ret ?_) (fun e => D.ret ?_)
    · have := fin _ rfl
      rw [show (ctl a0 l[i] && !(mHas m (rStr l[i] 2))) = true from ec.symm.trans e] at this
      rw [← hp] at this
      exact this
    · have := fin _ rfl
      rw [show (ctl a0 l[i] && !(mHas m (rStr l[i] 2))) = false from ec.symm.trans e] at this
      exact this
  · refine D.test (fun e => by rw [show iLt (i : Int) (rLen l) = false from ilt_nat' hi] at e; cases e) (fun _ => D.ret ?_)
    rw [List.take_of_length_le (by omega)] at h3
    exact h3
/-- The slot of a pod. -/
def srow (a0 : Row) (now : Int) (h : ByteArray) (p : Row) : Row :=
  rJ [[.bool true, .bool (pod_Available.v (et 61 (et 61 p)) (rInt (et 41 a0) 15) now), .bool (bIte (label_Get.v (rSl (et 61 p) 9) (bs [116, 101, 109, 112, 108, 97, 116, 101, 45, 104, 97, 115, 104])).2 (sEq (label_Get.v (rSl (et 61 p) 9) (bs [116, 101, 109, 112, 108, 97, 116, 101, 45, 104, 97, 115, 104])).1 h) false), .bool (bIte (iEq (rInt (et 61 p) 23) 2) true (iEq (rInt (et 61 p) 23) 3)), .bool (rBool (et 61 p) 7), .str (meta_KeyOf.v (et 27 (et 61 p)))], (et 61 (et 61 p))]
def slt (a0 : Row) (l : Rows) (now : Int) (h : ByteArray) (i : Nat) : Row := match fnd a0 l (nmc (rStr a0 2) i) with
  | none => zs
  | some p => srow a0 now h p
theorem set_mid {A : List Row} {z r : Row} {i n : Nat} (hA : A.length = i) (h : i < n) : rSet (A ++ List.replicate (n - i) z) (i : Int) r = A ++ [r] ++ List.replicate (n - (i + 1)) z := by
  unfold rSet
  have e : n - i = (n - (i + 1)) + 1 := by omega
  rw [Int.toNat_natCast, e, List.replicate_succ, List.set_append, if_neg (by omega), hA, Nat.sub_self]
  simp
theorem at_mid {A : List Row} {z : Row} {i n : Nat} (hA : A.length = i) (h : i < n) : rAt (A ++ List.replicate (n - i) z) (i : Int) = z := by
  have e : n - i = (n - (i + 1)) + 1 := by omega
  rw [rAt_nat, e, List.replicate_succ, List.getD_eq_getElem?_getD, List.getElem?_append_right (by omega), hA, Nat.sub_self]
  rfl
theorem fnd_mem {a0 : Row} {l : Rows} {n : ByteArray} {p : Row} (h : fnd a0 l n = some p) : p ∈ l ∧ ctl a0 p = true ∧ rStr p 2 = n := by
  have h1 := List.find?_some h
  have h1 := Bool.and_eq_true_iff.1 h1
  exact ⟨List.mem_of_find?_eq_some h, h1.1, sEq_iff.1 h1.2⟩
theorem slots_val (a0 : Row) (ha : Br a0) (l : Rows) (hl : Brs l) (now : Int) : D (fun k => (statefulset_slots.f k a0 l now).eval) (fun v => v = (List.range 40).map (slt a0 l now (hsh (eo 37 a0 18)))) := by
  refine D.bnd (q := ByN a0 l) (map_by a0 ha l hl now) (fun m hm => ?_)
  refine D.bnd (q := fun v => v = hsh (eo 37 a0 18)) (Hash_val _ (br_etaL ha _ _) (by kernel_rfl)) (fun h hh => ?_)
  subst hh
  generalize hsh (eo 37 a0 18) = h
  refine D.tt (by kernel_rfl) (D.tt (by kernel_rfl) (D.bnd (q := fun v => v = (List.range 40).map (slt a0 l now h)) ?_ (fun r hr => ?_)))
  · refine D.mono (D.loop (p := fun v => v = (List.range 40).map (slt a0 l now h)) (fun x : Int × Rows => ∃ i : Nat, i ≤ 40 ∧ x = ((i : Int), (List.range i).map (slt a0 l now h) ++ List.replicate (40 - i) zs)) (fun x => 40 - x.1.toNat) (fun x hx => ?_) _ ⟨0, Nat.zero_le _, rfl⟩) (fun v hv => hv)
    obtain ⟨i, hi, rfl⟩ := hx
    by_cases h40 : i < 40
    · refine D.tt (iLt_iff.2 (by show (i : Int) < 40; omega)) (D.bnd (q := fun v => v = nmc (rStr a0 2) i) (name_val47 _ (Br.eta (Br.eta ha _) _) i (by omega)) (fun r hr => ?_))
      subst hr
      have hlen : ((List.range i).map (slt a0 l now h)).length = i := by simp
      have fin : ∀ R, R = (List.range i).map (slt a0 l now h) ++ [slt a0 l now h i] ++ List.replicate (40 - (i + 1)) zs → (∃ j : Nat, j ≤ 40 ∧ (iAdd .i64 (i : Int) 1, R) = ((j : Int), (List.range j).map (slt a0 l now h) ++ List.replicate (40 - j) zs)) ∧ 40 - (iAdd .i64 (i : Int) 1).toNat < 40 - ((i : Int)).toNat := fun R hR => by
        rw [iAdd_in (by omega) (by omega)]
        refine ⟨⟨i + 1, by omega, ?_⟩, by omega⟩
        rw [hR, List.range_succ, List.map_append]; rfl
      obtain ⟨g1, g2⟩ := hm (nmc (rStr a0 2) i) [.str ByteArray.empty]
      cases hf : fnd a0 l (nmc (rStr a0 2) i) with
      | none =>
        rw [hf] at g1
        refine D.tt (by show bNot (mHas m (nmc (rStr a0 2) i)) = true; rw [g1]; rfl) (D.ret (fin _ ?_))
        have e : 40 - i = (40 - (i + 1)) + 1 := by omega
        have es : slt a0 l now h i = zs := by unfold slt; rw [hf]
        rw [es, e, List.replicate_succ]; simp
      | some p =>
        rw [hf] at g1
        have hp := fnd_mem hf
        have hbp := hl.2 p hp.1
        refine D.test (fun e => by rw [show mHas m (nmc (rStr a0 2) i) = true from g1] at e; cases e) (fun _ => ?_)
        have g3 : ∀ z, mGet m (nmc (rStr a0 2) i) z = et 61 p := fun z => by rw [(hm (nmc (rStr a0 2) i) z).2, hf]; rfl
        refine D.bnd (q := fun v => v = label_Get.v (rSl (et 61 p) 9) (bs [116, 101, 109, 112, 108, 97, 116, 101, 45, 104, 97, 115, 104])) ?_ (fun r1 hr1 => ?_)
        · refine D.of_eq (G := fun k => (label_Get.f k (rSl (et 61 p) 9) (bs [116, 101, 109, 112, 108, 97, 116, 101, 45, 104, 97, 115, 104])).eval) (fun k => by rw [g3]) ?_
          exact D.mono (label_Get.val _ _ (Br.sl (Br.eta hbp _) 9)) (fun v hv => hv.1)
        subst hr1
        refine D.bnd (q := fun v => v = pod_Available.v (et 61 (et 61 p)) (rInt (et 41 a0) 15) now) ?_ (fun r2 hr2 => ?_)
        · refine D.of_eq (G := fun k => (pod_Available.f k (et 61 (et 61 p)) (rInt (et 41 a0) 15) now).eval) (fun k => by rw [g3]) ?_
          exact D.mono (pod_Available.val _ _ _) (fun v hv => hv.1)
        subst hr2
        refine D.bnd (q := fun v => v = meta_KeyOf.v (et 27 (et 61 p))) ?_ (fun r3 hr3 => ?_)
        · refine D.of_eq (G := fun k => (meta_KeyOf.f k (et 27 (et 61 p))).eval) (fun k => by rw [g3]) ?_
          exact D.mono (meta_KeyOf.val _ (Br.eta (Br.eta hbp _) _)) (fun v hv => hv.1)
        subst hr3
        refine D.tt (decide_eq_true ⟨by show (0 : Int) ≤ (i : Int); omega, by show (i : Int) < 40; omega⟩) (D.ret ?_)
        rw [g3]
        refine fin _ ?_
        show rSet ((List.range i).map (slt a0 l now h) ++ List.replicate (40 - i) zs) (i : Int) (srow a0 now h p) = _
        rw [set_mid hlen h40]
        have es : slt a0 l now h i = srow a0 now h p := by unfold slt; rw [hf]
        rw [es]
    · have : i = 40 := by omega
      subst this
      refine D.test (fun e => by have := iLt_iff.1 e; simp at this) (fun _ => D.ret ?_)
      show (List.range 40).map (slt a0 l now h) ++ List.replicate (40 - 40) zs = _
      simp
  · subst hr
    refine D.ret ?_
    show rTake ((List.range 40).map (slt a0 l now h)) 40 = _
    unfold rTake
    rw [List.take_of_length_le (by simp)]
end
end Go.Proofs.YtolackmpfnndhaaGreatDoor.Ev
