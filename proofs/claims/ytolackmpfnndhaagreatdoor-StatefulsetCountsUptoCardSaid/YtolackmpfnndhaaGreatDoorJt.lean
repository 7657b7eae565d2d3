/- The reference's text of a tree is json.Print's. Conditions: stated at each. -/
import Derived.Test.YtolackmpfnndhaaGreatDoorJs
import Derived.Lib.ItoaNum
namespace Go.Proofs.YtolackmpfnndhaaGreatDoor.Ev
open Go Go.RowKit
set_option linter.unusedVariables false
set_option maxRecDepth 100000
noncomputable section
/-- A string of these bytes. -/
def bo (l : List UInt8) : ByteArray := ⟨l.toArray⟩
theorem bo_cat (a b : List UInt8) : sCat (bo a) (bo b) = bo (a ++ b) := by
  show bo a ++ bo b = _
  apply ByteArray.ext
  simp [bo]
theorem bo_len (l : List UInt8) : sLen (bo l) = (l.length : Int) := by
  show (((bo l).data.size : Nat) : Int) = _
  simp [bo]
theorem sok_bo {a b : List UInt8} (h : a.length + b.length ≤ 1000000000) : sOk (sLen (bo a)) (sLen (bo b)) = true := by
  unfold sOk; rw [bo_len, bo_len]; exact decide_eq_true (by omega)
def rst (u : Nat) : List UInt8 := if u < 10 then [] else Lib.decDigits (u / 10)
theorem dec_rst (u : Nat) : Lib.decDigits u = rst u ++ [UInt8.ofNat (48 + u % 10)] := by
  rw [Lib.decDigits]
  unfold rst
  split
  · rename_i h; rw [Nat.mod_eq_of_lt h]; rfl
  · rfl
theorem dg_row (u : Nat) (h : u < 10) : sRows [[.int .u8 (iCv .u8 (iAdd .i64 48 (u : Int)))]] = bo [UInt8.ofNat (48 + u)] := by
  have : iCv .u8 (iAdd .i64 48 (u : Int)) = ((48 + u : Nat) : Int) := by
    rw [iAdd_in (by omega) (by omega)]
    unfold iCv
    rw [IntKind.wrap_u8]; omega
  rw [this]; rfl
theorem dec_le (u : Nat) (hu : u ≤ 9223372036854775807) : (Lib.decDigits u).length ≤ 30 := by
  rw [← strconv_Itoa.dgs_eq 24 u (by omega)]
  have := dgs_le 24 u
  omega
theorem rem_nat (n : Nat) : iRem (n : Int) 10 = ((n % 10 : Nat) : Int) := by
  unfold iRem; rw [Int.tmod_eq_emod_of_nonneg (by omega)]; omega
theorem quo_nat (n : Nat) (h : n ≤ 9223372036854775807) : iQuo .i64 (n : Int) 10 = ((n / 10 : Nat) : Int) := by
  unfold iQuo
  rw [Int.tdiv_eq_ediv_of_nonneg (by omega), IntWalk.i64_in _ (by omega)]; omega
theorem digits_val (u : Nat) (hu : u ≤ 9223372036854775807) : D (fun k => (ref05_digits.f k (u : Int)).eval) (fun v => v = bo (Lib.decDigits u)) := by
  have hlen := dec_le u hu
  refine D.tt rfl (D.bnd (q := fun v => v = bo (Lib.decDigits u)) (D.loop (fun x : Int × ByteArray => ∃ (n : Nat) (t : List UInt8), x = ((n : Int), bo t) ∧ n ≤ u ∧ rst n ++ t = Lib.decDigits u) (fun x => x.1.toNat) _ (fun x hx => ?_) _ ⟨u, [UInt8.ofNat (48 + u % 10)], ?_, Nat.le_refl _, (dec_rst u).symm⟩) (fun r h => by subst h; exact D.ret rfl))
  · obtain ⟨n, t, rfl, hn, ht⟩ := hx
    have htl : t.length ≤ 30 := by have := congrArg List.length ht; rw [List.length_append] at this; omega
    by_cases h : n < 10
    · refine D.test (fun e => by have := iLe_iff.1 e; simp only at this; omega) (fun _ => D.ret ?_)
      show bo t = _
      have : rst n = [] := by unfold rst; rw [if_pos h]
      rw [← ht, this]; rfl
    · have h10 : n / 10 % 10 < 10 := Nat.mod_lt _ (by decide)
      have e1 : sRows [[.int .u8 (iCv .u8 (iAdd .i64 48 (iRem (iQuo .i64 (n : Int) 10) 10)))]] = bo [UInt8.ofNat (48 + n / 10 % 10)] := by
        rw [quo_nat n (by omega), rem_nat, dg_row _ h10]
      refine D.tt (iLe_iff.2 (by simp only; omega)) (D.tt rfl (D.tt rfl (D.tt ?_ (D.ret ?_))))
      · show sOk (sLen (sRows [[.int .u8 (iCv .u8 (iAdd .i64 48 (iRem (iQuo .i64 (n : Int) 10) 10)))]])) (sLen (bo t)) = true
        rw [e1]; exact sok_bo (by simp only [List.length_append, List.length_cons, List.length_nil]; omega)
      · refine ⟨⟨n / 10, UInt8.ofNat (48 + n / 10 % 10) :: t, ?_, by omega, ?_⟩, ?_⟩
        · show (iQuo .i64 (n : Int) 10, sCat (sRows [[.int .u8 (iCv .u8 (iAdd .i64 48 (iRem (iQuo .i64 (n : Int) 10) 10)))]]) (bo t)) = _
          rw [e1, bo_cat, quo_nat n (by omega)]; rfl
        · have h2 : rst n = rst (n / 10) ++ [UInt8.ofNat (48 + n / 10 % 10)] := by
            rw [← dec_rst]; unfold rst; rw [if_neg h]
          rw [← ht, h2, List.append_assoc]; rfl
        · show (iQuo .i64 (n : Int) 10).toNat < ((n : Int)).toNat
          rw [quo_nat n (by omega)]; omega
  · show ((u : Int), sRows [[.int .u8 (iCv .u8 (iAdd .i64 48 (iRem (u : Int) 10)))]]) = _
    rw [rem_nat, dg_row _ (Nat.mod_lt _ (by decide))]
def rb (l : List UInt8) : Rows := l.map fun b => [.int .u8 b.toNat]
theorem rb_s (l : List UInt8) : sRows (rb l) = bo l := by
  unfold sRows rb bo
  rw [List.map_map]
  congr 2
  have : ∀ l : List UInt8, l.map ((fun r : Row => UInt8.ofNat (match r.getD 0 .dead with | .int _ n => n.toNat | _ => 0)) ∘ fun b => [V.int .u8 b.toNat]) = l := fun l => by
    induction l with
    | nil => rfl
    | cons a l ih =>
      rw [List.map_cons, ih]
      congr 1
      show UInt8.ofNat ((a.toNat : Int)).toNat = a
      rw [Int.toNat_natCast]; exact UInt8.ofNat_toNat
  exact this l
theorem rb_app (a b : List UInt8) : rCat (rb a) (rb b) = rb (a ++ b) := by unfold rCat rb; rw [List.map_append]
theorem rb_len (a : List UInt8) : rLen (rb a) = (a.length : Int) := by unfold rLen rb; simp
def esc (c : UInt8) : List UInt8 := bif c == 10 then [92, 110] else bif c == 34 || c == 92 then [92, c] else [c]
theorem qB_app : ∀ a b : List UInt8, json_Print.qB (a ++ b) = json_Print.qB a ++ json_Print.qB b
  | [], b => rfl
  | c :: a, b => by
    show esc c ++ json_Print.qB (a ++ b) = (esc c ++ json_Print.qB a) ++ json_Print.qB b
    rw [qB_app a b, List.append_assoc]
theorem rok_b {a : List UInt8} {m : Int} (h : a.length ≤ 10000000) (hm : m ≤ 1000) : rOk 1 (rLen (rb a)) m = true := by
  unfold rOk; rw [rb_len]; exact decide_eq_true (by omega)
theorem rl1 (r : Row) : rLen [r] ≤ 1000 := by show ((1 : Nat) : Int) ≤ 1000; decide
theorem quoted_val (s : ByteArray) (hs : s.size ≤ 1048576) : D (fun k => (ref05_quoted.f k s).eval) (fun v => v = bo (json_Print.qt s)) := by
  have hl : s.data.toList.length = s.size := by rw [Array.length_toList]; rfl
  refine D.tt rfl (D.bnd (q := fun v => v = rb (34 :: json_Print.qB s.data.toList)) (D.loop (fun x : Rows × Int => 0 ≤ x.2 ∧ x.2.toNat ≤ s.size ∧ x.1 = rb (34 :: json_Print.qB (s.data.toList.take x.2.toNat))) (fun x => s.size - x.2.toNat) _ (fun x hx => ?_) _ ⟨Int.le_refl _, Nat.zero_le _, rfl⟩) (fun r h => ?_))
  · obtain ⟨out, i⟩ := x
    obtain ⟨h1, h2, h3⟩ := hx
    simp only at h1 h2 h3
    obtain ⟨i, rfl⟩ : ∃ j : Nat, i = j := ⟨i.toNat, by omega⟩
    rw [Int.toNat_natCast] at h2 h3
    subst h3
    have hq : (34 :: json_Print.qB (s.data.toList.take i)).length ≤ 3000000 := by
      have := qB_le (s.data.toList.take i)
      rw [List.length_cons]
      have h5 : (s.data.toList.take i).length ≤ i := by rw [List.length_take]; omega
      omega
    by_cases hi : i < s.size
    · have hi' : i < s.data.toList.length := by omega
      obtain ⟨c, hc⟩ : ∃ c, c = s.data.toList[i] := ⟨_, rfl⟩
      have hat : sAt s (i : Int) = (c.toNat : Int) := by
        show ((s.data.getD i 0).toNat : Int) = _
        rw [hc]
        have : s.data.getD i 0 = s.data.toList[i] := by
          rw [Array.getD_eq_getD_getElem?, Array.getElem?_eq_getElem (by simpa using hi')]
          simp
        rw [this]
      have hstep : ∀ e : List UInt8, esc c = e → (0 ≤ iAdd .i64 (i : Int) 1 ∧ (iAdd .i64 (i : Int) 1).toNat ≤ s.size ∧ rCat (rb (34 :: json_Print.qB (s.data.toList.take i))) (rb e) = rb (34 :: json_Print.qB (s.data.toList.take (iAdd .i64 (i : Int) 1).toNat))) ∧ s.size - (iAdd .i64 (i : Int) 1).toNat < s.size - i := fun e he => by
        rw [iAdd_in (by omega) (by omega)]
        have e0 : ((i : Int) + 1).toNat = i + 1 := by omega
        rw [e0]
        refine ⟨⟨by omega, by omega, ?_⟩, by omega⟩
        rw [rb_app, List.take_succ_eq_append_getElem hi', qB_app, ← hc, ← he]
        show rb (34 :: (json_Print.qB (s.data.toList.take i) ++ esc c)) = rb (34 :: (json_Print.qB (s.data.toList.take i) ++ (esc c ++ [])))
        rw [List.append_nil]
      have e10 : iEq (sAt s (i : Int)) 10 = (c == 10) := by rw [hat]; exact json_Print.u8_eq c 10 10 rfl
      have e34 : iEq (sAt s (i : Int)) 34 = (c == 34) := by rw [hat]; exact json_Print.u8_eq c 34 34 rfl
      have e92 : iEq (sAt s (i : Int)) 92 = (c == 92) := by rw [hat]; exact json_Print.u8_eq c 92 92 rfl
      have hin := iin_nat hi
      refine D.tt (ilt_nat hi) (D.tt hin (D.test (fun e => ?_) (fun e => ?_)))
      · have ec : (c == 10) = true := e10.symm.trans e
        refine D.tt (rok_b (by omega) (by decide)) (D.ret ?_)
        exact hstep [92, 110] (by unfold esc; rw [ec]; rfl)
      · have ec : (c == 10) = false := e10.symm.trans e
        refine D.tt hin (D.tt (bimp_2 _ hin) (D.test (fun e2 => ?_) (fun e2 => ?_)))
        · have e2' : (c == 34 || c == 92) = true := by rw [← e34, ← e92, ← bIte_or]; exact e2
          refine D.tt (rok_b (by omega) (by decide)) (D.tt hin (D.tt ?_ (D.ret ?_)))
          · show rOk 1 (rLen (rCat (rb (34 :: json_Print.qB (s.data.toList.take i))) (rb [92]))) _ = true
            rw [rb_app]; exact rok_b (by rw [List.length_append]; simp only [List.length_cons, List.length_nil] at hq ⊢; omega) (rl1 _)
          · have e5 : rCat (rCat (rb (34 :: json_Print.qB (s.data.toList.take i))) [[.int .u8 92]]) [[.int .u8 (sAt s (i : Int))]] = rCat (rb (34 :: json_Print.qB (s.data.toList.take i))) (rb [92, c]) := by
              rw [hat]
              show (rb (34 :: json_Print.qB (s.data.toList.take i)) ++ [[V.int .u8 92]]) ++ [[.int .u8 (c.toNat : Int)]] = rb (34 :: json_Print.qB (s.data.toList.take i)) ++ [[V.int .u8 92], [.int .u8 (c.toNat : Int)]]
              rw [List.append_assoc]; rfl
            have := hstep [92, c] (by unfold esc; rw [ec, e2']; rfl)
            rw [← e5] at this
            exact this
        · have e2' : (c == 34 || c == 92) = false := by rw [← e34, ← e92, ← bIte_or]; exact e2
          refine D.tt hin (D.tt (rok_b (by omega) (rl1 _)) (D.ret ?_))
          have := hstep [c] (by unfold esc; rw [ec, e2']; rfl)
          have e5 : rb [c] = [[.int .u8 (sAt s (i : Int))]] := by rw [hat]; rfl
          rw [e5] at this
          exact this
    · refine D.test (fun e => by rw [show iLt (i : Int) (sLen s) = false from ilt_nat' hi] at e; cases e) (fun _ => D.ret ?_)
      show rb (34 :: json_Print.qB (s.data.toList.take i)) = _
      rw [List.take_of_length_le (by omega)]
  · subst h
    have hq := qB_le s.data.toList
    refine D.tt (rok_b (by rw [List.length_cons]; omega) (by decide)) (D.ret ?_)
    show sRows (rCat (rb (34 :: json_Print.qB s.data.toList)) (rb [34])) = _
    rw [rb_app, rb_s]; rfl
theorem jt_snoc (x : List UInt8) : ∀ (a : List (List UInt8)) (c : Bool), jt c (a ++ [x]) = jt c a ++ (bif a.isEmpty && c then [] else [44]) ++ x
  | [], c => by show (bif c then [] else [44]) ++ x ++ [] = _; cases c <;> simp [jt]
  | y :: a, c => by
    show (bif c then [] else [44]) ++ y ++ jt false (a ++ [x]) = ((bif c then [] else [44]) ++ y ++ jt false a) ++ (bif false then [] else [44]) ++ x
    rw [jt_snoc x a false]
    simp
/-- A loop that joins the parts' texts. -/
theorem D.join {s : Nat → ByteArray × Int → T ((ByteArray × Int) ⊕ ByteArray)} {l : Rows} (hn : l.length ≤ 1048576) (g : Row → List UInt8)
    (h : ∀ (i : Nat) (t : List UInt8), i < l.length → t = jt true ((l.take i).map g) → D (fun k => (s k (bo t, (i : Int))).eval) (fun v => v = .inl (bo (t ++ (bif Nat.blt 0 i then [44] else []) ++ g (l.getD i [])), iAdd .i64 (i : Int) 1)))
    (he : ∀ (i : Nat) (t : ByteArray), ¬ i < l.length → D (fun k => (s k (t, (i : Int))).eval) (fun v => v = .inr t)) : D (fun k => iter (s k) k (ByteArray.empty, 0)) (fun v => v = bo (jt true (l.map g))) := by
  refine D.loop (fun x : ByteArray × Int => 0 ≤ x.2 ∧ x.2.toNat ≤ l.length ∧ x.1 = bo (jt true ((l.take x.2.toNat).map g))) (fun x => l.length - x.2.toNat) _ (fun x hx => ?_) _ ⟨Int.le_refl _, Nat.zero_le _, rfl⟩
  obtain ⟨t, i⟩ := x
  obtain ⟨h1, h2, h3⟩ := hx
  simp only at h1 h2 h3
  obtain ⟨i, rfl⟩ : ∃ j : Nat, i = j := ⟨i.toNat, by omega⟩
  rw [Int.toNat_natCast] at h2 h3
  subst h3
  by_cases hi : i < l.length
  · refine (h i _ hi rfl).mono ?_
    rintro _ rfl
    show (0 ≤ iAdd .i64 (i : Int) 1 ∧ (iAdd .i64 (i : Int) 1).toNat ≤ l.length ∧ bo (jt true ((l.take i).map g) ++ (bif Nat.blt 0 i then [44] else []) ++ g (l.getD i [])) = bo (jt true ((l.take (iAdd .i64 (i : Int) 1).toNat).map g))) ∧ l.length - (iAdd .i64 (i : Int) 1).toNat < l.length - i
    rw [iAdd_in (by omega) (by omega)]
    have e0 : ((i : Int) + 1).toNat = i + 1 := by omega
    rw [e0]
    refine ⟨⟨by omega, by omega, ?_⟩, by omega⟩
    rw [List.take_succ_eq_append_getElem hi, List.map_append, List.map_cons, List.map_nil, jt_snoc, List.getD_eq_getElem?_getD, List.getElem?_eq_getElem hi]
    congr 3
    cases i with
    | zero => rfl
    | succ i =>
      have : ((l.take (i + 1)).map g).isEmpty = false := by
        cases l with
        | nil => simp at hi
        | cons a l => rfl
      rw [this]; rfl
  · refine (he i _ hi).mono ?_
    rintro _ rfl
    show bo (jt true ((l.take i).map g)) = _
    rw [List.take_of_length_le (by omega)]
theorem sum_take (l : Rows) (f : Row → Nat) (i : Nat) : ((l.take i).map f).sum ≤ (l.map f).sum := by
  have e := List.take_append_drop i l
  have : (l.map f).sum = ((l.take i).map f).sum + ((l.drop i).map f).sum := by
    rw [← List.sum_append, ← List.map_append, e]
  omega
theorem jt_take {l : Rows} {g : Row → List UInt8} (i : Nat) : (jt true ((l.take i).map g)).length ≤ (l.map fun q => (g q).length + 1).sum := by
  have h1 := jt_le true ((l.take i).map g)
  rw [List.map_map] at h1
  exact Nat.le_trans h1 (sum_take l (fun q => (g q).length + 1) i)
theorem rtxt_val : ∀ (n m : Nat) (r : Row), Nv n r → vd m r = true → sz n r ≤ 1000 → D (fun k => (ref05_text.f k r).eval) (fun v => v = bo (txt n r))
  | 0, _, r, h, _, _ => h.elim
  | n + 1, 0, r, _, h, _ => by cases h
  | n + 1, m + 1, r, hN, hv, hz => by
    have hN0 := hN
    obtain ⟨he, h3, h4, hs, hl, hf⟩ := hN
    obtain ⟨v1, _, _, v4, v5⟩ := vd_parts hv
    have hz : 1 + ((rSl r 3).map (sz n)).sum + ((rSl r 4).map fun q => sz n (q.drop 1)).sum ≤ 1000 := hz
    refine D.succ ?_
    unfold txt
    refine D.test (fun c0 => ?_) (fun c0 => ?_)
    · rw [c0]; exact D.ret rfl
    refine D.test (fun c1 => ?_) (fun c1 => ?_)
    · rw [c0, c1]
      exact D.test (fun e => D.ret (by rw [e]; rfl)) (fun e => D.ret (by rw [e]; rfl))
    refine D.test (fun c2 => ?_) (fun c2 => ?_)
    · rw [c0, c1, c2]
      obtain ⟨a, b⟩ := sc_int v1 c2
      simp only [cond_true, cond_false]
      rw [← strconv_Itoa.itz_eq _ (by omega) (by omega)]
      refine D.test (fun e => ?_) (fun e => ?_)
      · have e := iLt_iff.1 e
        obtain ⟨u, hu⟩ : ∃ u : Nat, rInt r 1 = -(u : Int) := ⟨(rInt r 1).natAbs, by omega⟩
        refine D.bnd (q := fun v => v = bo (Lib.decDigits u)) ?_ (fun x hx => ?_)
        · show D (fun k => (ref05_digits.f k (iSub .i64 0 (rInt r 1))).eval) _
          have e5 : iSub .i64 0 (rInt r 1) = (u : Int) := by rw [iSub_in (by omega) (by omega)]; omega
          rw [e5]; exact digits_val u (by omega)
        · subst hx
          have hd := dec_le u (by omega)
          refine D.tt (sok_bo (a := [45]) (by simp; omega)) (D.ret ?_)
          show sCat (bo [45]) (bo (Lib.decDigits u)) = _
          rw [bo_cat]
          unfold Lib.itoa
          rw [if_pos (by omega), hu]
          have : (-(u : Int)).natAbs = u := by omega
          rw [this]; rfl
      · have e : ¬ rInt r 1 < 0 := of_decide_eq_false e
        obtain ⟨u, hu⟩ : ∃ u : Nat, rInt r 1 = (u : Int) := ⟨(rInt r 1).toNat, by omega⟩
        refine D.bnd (q := fun v => v = bo (Lib.decDigits u)) ?_ (fun x hx => ?_)
        · show D (fun k => (ref05_digits.f k (rInt r 1)).eval) _
          rw [hu]; exact digits_val u (by omega)
        · subst hx
          refine D.ret ?_
          unfold Lib.itoa
          rw [if_neg e, hu]; rfl
    refine D.test (fun c3 => ?_) (fun c3 => ?_)
    · rw [c0, c1, c2, c3]
      exact D.bnd (q := fun v => v = bo (json_Print.qt (rStr r 2))) (quoted_val _ hs) (fun x hx => by subst hx; exact D.ret rfl)
    have b3 : ∀ q, q ∈ rSl r 3 → (txt n q).length + 90 ≤ 600 * sz n q := fun q hq => txt_le n m q (hl q hq) (v4 q hq)
    have b4 : ∀ q, q ∈ rSl r 4 → (json_Print.qt (rStr q 0) ++ 58 :: txt n (q.drop 1)).length + 1 ≤ 600 * sz n (q.drop 1) := fun q hq => by
      have := txt_le n m _ (hf q hq).2.2 (v5 q hq).2
      have h5 := qt_le (rStr q 0)
      have h6 := nOk_le (v5 q hq).1
      rw [List.length_append, List.length_cons]; omega
    refine D.test (fun c4 => ?_) (fun c4 => ?_)
    · rw [c0, c1, c2, c3, c4]
      simp only [cond_true, cond_false]
      have hsum : ((rSl r 3).map fun q => (txt n q).length + 1).sum ≤ 600000 := by
        have h1 : ((rSl r 3).map fun q => (txt n q).length + 1).sum ≤ ((rSl r 3).map fun q => 600 * sz n q).sum := sum_mono (fun q hq => by have := b3 q hq; omega)
        have h2 : ((rSl r 3).map fun q => 600 * sz n q).sum = 600 * ((rSl r 3).map (sz n)).sum := sum_mul 600 (sz n) _
        omega
      refine D.bnd (q := fun v => v = bo (jt true ((rSl r 3).map (txt n)))) ?_ (fun x hx => ?_)
      · show D (fun k => iter (ref05_text.s16 k (ref05_text.f k) (et 110 r)) k (ByteArray.empty, 0)) _
        rw [he]
        refine D.join h3 (txt n) (fun i t hi ht => ?_) (fun i t hi => ?_)
        · have hm := hl _ (getD_mem hi)
          have hq := b3 _ (getD_mem hi)
          have hz2 := mem_sum (rSl r 3) (sz n) i hi
          have htl : t.length ≤ 600000 := by rw [ht]; exact Nat.le_trans (jt_take i) hsum
          have hself : D (fun k => (ref05_text.f k (et 110 (rAt (rSl r 3) (i : Int)))).eval) (fun v => v = bo (txt n ((rSl r 3).getD i []))) := by
            rw [rAt_nat, hm.et]
            exact rtxt_val n m _ hm (v4 _ (getD_mem hi)) (by omega)
          refine D.tt (ilt_nat hi) ?_
          cases i with
          | zero =>
            refine D.test (fun e => by cases e) (fun _ => ?_)
            refine D.tt (iin_nat hi) (D.bnd hself (fun b hb => ?_))
            subst hb
            refine D.tt (sok_bo (by omega)) (D.ret ?_)
            show Sum.inl (sCat (bo t) (bo (txt n ((rSl r 3).getD 0 []))), _) = Sum.inl (bo (t ++ [] ++ txt n ((rSl r 3).getD 0 [])), _)
            rw [bo_cat, List.append_nil]
          | succ i =>
            refine D.tt (decide_eq_true (by show (0 : Int) < ((i + 1 : Nat) : Int); omega)) ?_
            refine D.tt (sok_bo (b := [44]) (by simp; omega)) (D.tt (iin_nat hi) (D.bnd hself (fun b hb => ?_)))
            subst hb
            have e1 : sCat (bo t) (bs [44]) = bo (t ++ [44]) := bo_cat t [44]
            refine D.tt ?_ (D.ret ?_)
            · show sOk (sLen (sCat (bo t) (bs [44]))) _ = true
              rw [e1]; exact sok_bo (by simp only [List.length_append, List.length_cons, List.length_nil]; omega)
            · show Sum.inl (sCat (sCat (bo t) (bs [44])) (bo (txt n ((rSl r 3).getD (i + 1) []))), _) = Sum.inl (bo (t ++ [44] ++ txt n ((rSl r 3).getD (i + 1) [])), _)
              rw [e1, bo_cat]
        · exact D.test (fun e => by rw [show iLt (i : Int) (rLen (rSl r 3)) = false from ilt_nat' hi] at e; cases e) (fun _ => D.ret rfl)
      · subst hx
        have hj : (jt true ((rSl r 3).map (txt n))).length ≤ 600000 := by
          have := jt_le true ((rSl r 3).map (txt n))
          rw [List.map_map] at this
          exact Nat.le_trans this hsum
        have e1 : sCat (bs [91]) (bo (jt true ((rSl r 3).map (txt n)))) = bo (91 :: jt true ((rSl r 3).map (txt n))) := bo_cat [91] _
        refine D.tt (sok_bo (a := [91]) (by simp; omega)) (D.tt ?_ (D.ret ?_))
        · show sOk (sLen (sCat (bs [91]) (bo (jt true ((rSl r 3).map (txt n)))))) _ = true
          rw [e1]; exact sok_bo (b := [93]) (by simp; omega)
        · show sCat (sCat (bs [91]) (bo (jt true ((rSl r 3).map (txt n))))) (bs [93]) = _
          rw [e1]; exact bo_cat _ [93]
    · rw [c0, c1, c2, c3, c4]
      simp only [cond_true, cond_false]
      have hsum : ((rSl r 4).map fun q => (json_Print.qt (rStr q 0) ++ 58 :: txt n (q.drop 1)).length + 1).sum ≤ 600000 := by
        have h1 : ((rSl r 4).map fun q => (json_Print.qt (rStr q 0) ++ 58 :: txt n (q.drop 1)).length + 1).sum ≤ ((rSl r 4).map fun q => 600 * sz n (q.drop 1)).sum := sum_mono b4
        have h2 : ((rSl r 4).map fun q => 600 * sz n (q.drop 1)).sum = 600 * ((rSl r 4).map fun q => sz n (q.drop 1)).sum := sum_mul 600 (fun q => sz n (q.drop 1)) _
        omega
      refine D.bnd (q := fun v => v = bo (jt true ((rSl r 4).map fun q => json_Print.qt (rStr q 0) ++ 58 :: txt n (q.drop 1)))) ?_ (fun x hx => ?_)
      · show D (fun k => iter (ref05_text.s23 k (ref05_text.f k) (et 110 r)) k (ByteArray.empty, 0)) _
        rw [he]
        refine D.join h4 (fun q => json_Print.qt (rStr q 0) ++ 58 :: txt n (q.drop 1)) (fun i t hi ht => ?_) (fun i t hi => ?_)
        · obtain ⟨hm1, hm2, hm3⟩ := hf _ (getD_mem hi)
          have hq := b4 _ (getD_mem hi)
          rw [List.length_append, List.length_cons] at hq
          have hz2 : sz n (((rSl r 4).getD i []).drop 1) ≤ ((rSl r 4).map fun q => sz n (q.drop 1)).sum := mem_sum (rSl r 4) (fun q => sz n (q.drop 1)) i hi
          have htl : t.length ≤ 600000 := by rw [ht]; exact Nat.le_trans (jt_take i) hsum
          have hself : D (fun k => (ref05_text.f k (eo 110 (rAt (rSl r 4) (i : Int)) 1)).eval) (fun v => v = bo (txt n (((rSl r 4).getD i []).drop 1))) := by
            rw [rAt_nat, eo1 hm1]
            exact rtxt_val n m _ hm3 (v5 _ (getD_mem hi)).2 (by omega)
          have hquo : D (fun k => (ref05_quoted.f k (rStr (rAt (rSl r 4) (i : Int)) 0)).eval) (fun v => v = bo (json_Print.qt (rStr ((rSl r 4).getD i []) 0))) := quoted_val _ hm2
          generalize hQ : json_Print.qt (rStr ((rSl r 4).getD i []) 0) = Q at hquo hq ⊢
          generalize hX : txt n (((rSl r 4).getD i []).drop 1) = X at hself hq ⊢
          refine D.tt (ilt_nat hi) ?_
          cases i with
          | zero =>
            refine D.test (fun e => by cases e) (fun _ => ?_)
            refine D.tt (iin_nat hi) (D.bnd hquo (fun b hb => ?_))
            subst hb
            have e1 : sCat (bo t) (bo Q) = bo (t ++ Q) := bo_cat t Q
            have e2 : sCat (bo (t ++ Q)) (bs [58]) = bo (t ++ Q ++ [58]) := bo_cat _ [58]
            refine D.tt (sok_bo (by omega)) (D.tt ?_ (D.tt (iin_nat hi) (D.bnd hself (fun b hb => ?_))))
            · show sOk (sLen (sCat (bo t) (bo Q))) _ = true
              rw [e1]; exact sok_bo (b := [58]) (by simp only [List.length_append, List.length_cons, List.length_nil]; omega)
            subst hb
            refine D.tt ?_ (D.ret ?_)
            · show sOk (sLen (sCat (sCat (bo t) (bo Q)) (bs [58]))) _ = true
              rw [e1, e2]; exact sok_bo (by simp only [List.length_append, List.length_cons, List.length_nil]; omega)
            · show Sum.inl (sCat (sCat (sCat (bo t) (bo Q)) (bs [58])) (bo X), _) = _
              rw [e1, e2, bo_cat]
              show Sum.inl (bo (t ++ Q ++ [58] ++ X), _) = Sum.inl (bo (t ++ [] ++ (Q ++ 58 :: X)), _)
              simp
          | succ i =>
            refine D.tt (decide_eq_true (by show (0 : Int) < ((i + 1 : Nat) : Int); omega)) ?_
            have e0 : sCat (bo t) (bs [44]) = bo (t ++ [44]) := bo_cat t [44]
            have e1 : sCat (bo (t ++ [44])) (bo Q) = bo (t ++ [44] ++ Q) := bo_cat _ Q
            have e2 : sCat (bo (t ++ [44] ++ Q)) (bs [58]) = bo (t ++ [44] ++ Q ++ [58]) := bo_cat _ [58]
            refine D.tt (sok_bo (b := [44]) (by simp; omega)) (D.tt (iin_nat hi) (D.bnd hquo (fun b hb => ?_)))
            subst hb
            refine D.tt ?_ (D.tt ?_ (D.tt (iin_nat hi) (D.bnd hself (fun b hb => ?_))))
            · show sOk (sLen (sCat (bo t) (bs [44]))) _ = true
              rw [e0]; exact sok_bo (by simp only [List.length_append, List.length_cons, List.length_nil]; omega)
            · show sOk (sLen (sCat (sCat (bo t) (bs [44])) (bo Q))) _ = true
              rw [e0, e1]; exact sok_bo (b := [58]) (by simp only [List.length_append, List.length_cons, List.length_nil]; omega)
            subst hb
            refine D.tt ?_ (D.ret ?_)
            · show sOk (sLen (sCat (sCat (sCat (bo t) (bs [44])) (bo Q)) (bs [58]))) _ = true
              rw [e0, e1, e2]; exact sok_bo (by simp only [List.length_append, List.length_cons, List.length_nil]; omega)
            · show Sum.inl (sCat (sCat (sCat (sCat (bo t) (bs [44])) (bo Q)) (bs [58])) (bo X), _) = _
              rw [e0, e1, e2, bo_cat]
              show Sum.inl (bo (t ++ [44] ++ Q ++ [58] ++ X), _) = Sum.inl (bo (t ++ [44] ++ (Q ++ 58 :: X)), _)
              simp
        · exact D.test (fun e => by rw [show iLt (i : Int) (rLen (rSl r 4)) = false from ilt_nat' hi] at e; cases e) (fun _ => D.ret rfl)
      · subst hx
        have hj : (jt true ((rSl r 4).map fun q => json_Print.qt (rStr q 0) ++ 58 :: txt n (q.drop 1))).length ≤ 600000 := by
          have := jt_le true ((rSl r 4).map fun q => json_Print.qt (rStr q 0) ++ 58 :: txt n (q.drop 1))
          rw [List.map_map] at this
          exact Nat.le_trans this hsum
        generalize (jt true ((rSl r 4).map fun q => json_Print.qt (rStr q 0) ++ 58 :: txt n (q.drop 1))) = J at hj ⊢
        have e1 : sCat (bs [123]) (bo J) = bo (123 :: J) := bo_cat [123] _
        refine D.tt (sok_bo (a := [123]) (by simp; omega)) (D.tt ?_ (D.ret ?_))
        · show sOk (sLen (sCat (bs [123]) (bo J))) _ = true
          rw [e1]; exact sok_bo (b := [125]) (by simp; omega)
        · show sCat (sCat (bs [123]) (bo J)) (bs [125]) = _
          rw [e1]; exact bo_cat _ [125]
theorem rPrint_val {n : Nat} (hn : n ≤ 8) {r : Row} (h : Nv n r) : D (fun k => (ref05_Print.f k r).eval) (fun v => v = prn n r) := by
  have he := h.et
  refine D.bnd (q := fun v => v = okV n r) ?_ (fun b hb => ?_)
  · show D (fun k => (ref04_Valid.f k (et 110 r)).eval) _
    rw [he]; exact rValid_val hn h
  subst hb
  unfold prn
  refine D.test (fun e => ?_) (fun e => ?_)
  · rw [bnot_t e]; exact D.ret rfl
  · have e := bnot_f e
    have e' := Bool.and_eq_true_iff.1 e
    have h1 := of_decide_eq_true e'.2
    rw [e]
    refine D.bnd (q := fun v => v = bo (txt n r)) ?_ (fun x hx => ?_)
    · show D (fun k => (ref05_text.f k (et 110 r)).eval) _
      rw [he]; exact rtxt_val n 12 r h e'.1 (by omega)
    subst hx
    have el : iLt 20000 (sLen (bo (txt n r))) = decide (20000 < (txt n r).length) := by
      rw [bo_len]; unfold iLt
      by_cases hc : 20000 < (txt n r).length
      · rw [decide_eq_true hc, decide_eq_true (by omega)]
      · rw [decide_eq_false hc, decide_eq_false (by omega)]
    exact D.test (fun e => D.ret (by rw [show decide (20000 < (txt n r).length) = true from el.symm.trans e]; rfl)) (fun e => D.ret (by rw [show decide (20000 < (txt n r).length) = false from el.symm.trans e]; rfl))
end
end Go.Proofs.YtolackmpfnndhaaGreatDoor.Ev
