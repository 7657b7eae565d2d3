/- Trees of values: validity, size and text, of the program's functions. Conditions: stated at each. -/
import Derived.Test.YtolackmpfnndhaaGreatDoorJv
namespace Go.Proofs.YtolackmpfnndhaaGreatDoor.Ev
open Go Go.RowKit
set_option linter.unusedVariables false
set_option maxRecDepth 100000
noncomputable section
theorem iAdd_in {a b : Int} (h0 : -9223372036854775808 ≤ a + b) (h1 : a + b ≤ 9223372036854775807) : iAdd .i64 a b = a + b := by
  unfold iAdd; exact IntWalk.i64_in _ (by omega)
theorem iSub_in {a b : Int} (h0 : -9223372036854775808 ≤ a - b) (h1 : a - b ≤ 9223372036854775807) : iSub .i64 a b = a - b := by
  unfold iSub; exact IntWalk.i64_in _ (by omega)
/-- A loop over the places 0 .. n - 1 that is left at the first bad one. -/
theorem D.any {s : Nat → Int → T (Int ⊕ (Bool ⊕ Unit))} {n : Nat} (hn : n ≤ 1048576) (c : Nat → Bool)
    (h : ∀ i : Nat, i < n → D (fun k => (s k (i : Int)).eval) (fun v => v = bif c i then .inr (.inl false) else .inl (iAdd .i64 (i : Int) 1)))
    (he : ∀ i : Nat, ¬ i < n → D (fun k => (s k (i : Int)).eval) (fun v => v = .inr (.inr ()))) : D (fun k => iter (s k) k 0) (fun v => v = bif (List.range n).any c then .inl false else .inr ()) := by
  refine D.loop (fun x => 0 ≤ x ∧ x.toNat ≤ n ∧ (List.range x.toNat).any c = false) (fun x => n - x.toNat) _ (fun x hx => ?_) 0 ⟨Int.le_refl _, Nat.zero_le _, rfl⟩
  obtain ⟨h1, h2, h3⟩ := hx
  obtain ⟨i, rfl⟩ : ∃ i : Nat, x = i := ⟨x.toNat, by omega⟩
  rw [Int.toNat_natCast] at h2 h3
  by_cases hi : i < n
  · refine (h i hi).mono ?_
    rintro _ rfl
    cases hc : c i with
    | true =>
      show Sum.inl false = bif (List.range n).any c then Sum.inl false else Sum.inr ()
      rw [List.any_eq_true.2 ⟨i, List.mem_range.2 hi, hc⟩]; rfl
    | false =>
      show (0 ≤ iAdd .i64 (i : Int) 1 ∧ (iAdd .i64 (i : Int) 1).toNat ≤ n ∧ (List.range (iAdd .i64 (i : Int) 1).toNat).any c = false) ∧ n - (iAdd .i64 (i : Int) 1).toNat < n - i
      rw [iAdd_in (by omega) (by omega)]
      have e : ((i : Int) + 1).toNat = i + 1 := by omega
      rw [e]
      refine ⟨⟨by omega, by omega, ?_⟩, by omega⟩
      rw [List.range_succ, List.any_append, h3]
      simp [hc]
  · refine (he i hi).mono ?_
    rintro _ rfl
    have : i = n := by omega
    subst this
    show Sum.inr () = bif (List.range i).any c then Sum.inl false else Sum.inr ()
    rw [h3]; rfl
/-- A loop over the places 0 .. n - 1 that carries something on. -/
theorem D.fold {A R : Type} {s : Nat → A × Int → T ((A × Int) ⊕ R)} {n : Nat} (hn : n ≤ 9223372036854775806) (g : A → Nat → A) (z : A → R) (I : Nat → A → Prop) (x0 : A) (h0 : I 0 x0)
    (h : ∀ (i : Nat) (x : A), i < n → I i x → D (fun k => (s k (x, (i : Int))).eval) (fun v => v = .inl (g x i, iAdd .i64 (i : Int) 1)) ∧ I (i + 1) (g x i))
    (he : ∀ (i : Nat) (x : A), ¬ i < n → D (fun k => (s k (x, (i : Int))).eval) (fun v => v = .inr (z x))) : D (fun k => iter (s k) k (x0, 0)) (fun v => v = z ((List.range n).foldl g x0)) := by
  refine D.loop (fun x => 0 ≤ x.2 ∧ x.2.toNat ≤ n ∧ x.1 = (List.range x.2.toNat).foldl g x0 ∧ I x.2.toNat x.1) (fun x => n - x.2.toNat) _ (fun x hx => ?_) _ ⟨Int.le_refl _, Nat.zero_le _, rfl, h0⟩
  obtain ⟨a, x⟩ := x
  obtain ⟨h1, h2, h3, h4⟩ := hx
  simp only at h1 h2 h3 h4
  obtain ⟨i, rfl⟩ : ∃ i : Nat, x = i := ⟨x.toNat, by omega⟩
  rw [Int.toNat_natCast] at h2 h3 h4
  by_cases hi : i < n
  · obtain ⟨hd, hI⟩ := h i a hi h4
    refine hd.mono ?_
    rintro _ rfl
    show (0 ≤ iAdd .i64 (i : Int) 1 ∧ (iAdd .i64 (i : Int) 1).toNat ≤ n ∧ g a i = (List.range (iAdd .i64 (i : Int) 1).toNat).foldl g x0 ∧ I (iAdd .i64 (i : Int) 1).toNat (g a i)) ∧ n - (iAdd .i64 (i : Int) 1).toNat < n - i
    rw [iAdd_in (by omega) (by omega)]
    have e : ((i : Int) + 1).toNat = i + 1 := by omega
    rw [e]
    refine ⟨⟨by omega, by omega, ?_, hI⟩, by omega⟩
    rw [List.range_succ, List.foldl_append, ← h3]; rfl
  · refine (he i a hi).mono ?_
    rintro _ rfl
    have : i = n := by omega
    subst this
    rw [h3]
theorem ilt_nat {i n : Nat} (h : i < n) : iLt (i : Int) (n : Int) = true := decide_eq_true (by omega)
theorem ilt_nat' {i n : Nat} (h : ¬ i < n) : iLt (i : Int) (n : Int) = false := decide_eq_false (by omega)
theorem iin_nat {i n : Nat} (h : i < n) : iIn (i : Int) (n : Int) = true := decide_eq_true ⟨by omega, by omega⟩
/-- A string's bytes are those of a text, and it is short. -/
def tOk (s : ByteArray) : Bool := !((List.range s.size).any fun i => bIte (bNot (iEq (sAt s (i : Int)) 10)) (bIte (iLt (sAt s (i : Int)) 32) true (iLt 126 (sAt s (i : Int)))) false) && iLe (sLen s) 200
def nC (x : Int) : Bool := bNot (bIte (bIte (bIte (bIte (bIte (bIte (iLe (97) x) (iLe x (122)) false) true (bIte (iLe (65) x) (iLe x (90)) false)) true (bIte (iLe (48) x) (iLe x (57)) false)) true (iEq x (45))) true (iEq x (95))) true (iEq x (47)))
def nOk (s : ByteArray) : Bool := !((List.range s.size).any fun i => nC (sAt s (i : Int))) && bIte (iLe 1 (sLen s)) (iLe (sLen s) 40) false
theorem cas_any {α : Type} {o : Nat → Option (Bool ⊕ Unit)} {b y : Bool} (h : D o (fun v => v = bif b then .inl false else .inr ())) : D (fun k => (T.cas (o k) (fun r0 => .ret r0) (fun _ => .ret y) : T Bool).eval) (fun v => v = (!b && y)) := by
  refine D.cas h (fun r hr => ?_) (fun r hr => ?_)
  · cases b with
    | true => injection hr with hr; subst hr; exact D.ret rfl
    | false => cases hr
  · cases b with
    | true => cases hr
    | false => exact D.ret rfl
theorem bimp_2 (c : Bool) {b : Bool} (h : b = true) : bImp c b = true := bimp_ h
theorem text_val (s : ByteArray) (hs : s.size ≤ 1048576) : D (fun k => (value_text.f k s).eval) (fun v => v = tOk s) := by
  refine cas_any (α := Bool) (D.any hs _ (fun i hi => ?_) (fun i hi => ?_))
  · have h2 := iin_nat hi
    refine D.tt (ilt_nat hi) (D.tt h2 (D.tt (bimp_2 _ h2) (D.tt (bimp_2 _ h2) ?_)))
    exact D.test (fun e => D.ret (by rw [e]; rfl)) (fun e => D.ret (by rw [e]; rfl))
  · exact D.test (fun e => by rw [show iLt (i : Int) (sLen s) = false from ilt_nat' hi] at e; cases e) (fun _ => D.ret rfl)
theorem name_val (s : ByteArray) (hs : s.size ≤ 1048576) : D (fun k => (value_name.f k s).eval) (fun v => v = nOk s) := by
  refine cas_any (α := Bool) (D.any hs _ (fun i hi => ?_) (fun i hi => ?_))
  · have h2 := iin_nat hi
    refine D.tt (ilt_nat hi) (D.tt h2 ?_)
    exact D.test (fun e => D.ret (by rw [show nC (sAt s (i : Int)) = true from e]; rfl)) (fun e => D.ret (by rw [show nC (sAt s (i : Int)) = false from e]; rfl))
  · exact D.test (fun e => by rw [show iLt (i : Int) (sLen s) = false from ilt_nat' hi] at e; cases e) (fun _ => D.ret rfl)
/-- Of a value without its parts. -/
def sc (r : Row) : Bool :=
  bif iEq (rInt r 0) 1 then sEq (rStr r 2) ByteArray.empty && (iEq (rInt r 1) 0 || iEq (rInt r 1) 1)
  else bif iEq (rInt r 0) 2 then sEq (rStr r 2) ByteArray.empty && iLe (-1000000000000000) (rInt r 1) && iLe (rInt r 1) 1000000000000000
  else bif iEq (rInt r 0) 3 then iEq (rInt r 1) 0 && tOk (rStr r 2)
  else bif iEq (rInt r 0) 0 || iEq (rInt r 0) 4 || iEq (rInt r 0) 5 then iEq (rInt r 1) 0 && sEq (rStr r 2) ByteArray.empty else false
theorem bIte_and (a b : Bool) : bIte a b false = (a && b) := by cases a <;> rfl
theorem bIte_or (a b : Bool) : bIte a true b = (a || b) := by cases a <;> rfl
theorem scalar_val (r : Row) (hs : (rStr r 2).size ≤ 1048576) : D (fun k => (value_scalar.f k r).eval) (fun v => v = sc r) := by
  unfold sc
  refine D.test (fun e => D.ret ?_) (fun e1 => D.test (fun e => D.ret ?_) (fun e2 => D.test (fun e => ?_) (fun e3 => D.test (fun e => D.tt e (D.ret ?_)) (fun e4 => D.test (fun e => D.tt e (D.ret ?_)) (fun e5 => D.test (fun e => D.ret ?_) (fun e6 => D.ret ?_))))))
  · rw [e, bIte_and, bIte_or]; rfl
  · rw [e1, e, bIte_and, bIte_and]; rfl
  · rw [e1, e2, e]
    refine D.opt (q := fun v => iEq (rInt r 1) 0 = true → v = tOk (rStr r 2)) (fun _ => (text_val _ hs).mono (fun v hv _ => hv)) (fun e h => by rw [e] at h; cases h) (fun r0 h0 => D.ret ?_)
    cases hc : iEq (rInt r 1) 0 with
    | true => rw [h0 hc]; rfl
    | false => rfl
  · rw [e1, e2, e3, e, bIte_and]; rfl
  · rw [e1, e2, e3, e4, e, bIte_and]; rfl
  · rw [e1, e2, e3, e4, e5, e, bIte_and]; rfl
  · rw [e1, e2, e3, e4, e5, e6]; rfl
/-- A tree is valid, of at most n levels. -/
def vd : Nat → Row → Bool
  | 0, _ => false
  | n + 1, r => sc r && !(bNot (iEq (rInt r 0) 4) && iLt 0 (rLen (rSl r 3))) && !(bNot (iEq (rInt r 0) 5) && iLt 0 (rLen (rSl r 4))) && !(iLt 64 (rLen (rSl r 3))) && !(iLt 64 (rLen (rSl r 4))) &&
      !((List.range (rSl r 3).length).any fun i => !(vd n ((rSl r 3).getD i []))) &&
      !((List.range (rSl r 4).length).any fun i => !(nOk (rStr ((rSl r 4).getD i []) 0)) || (Nat.blt 0 i && !(sLt (rStr ((rSl r 4).getD (i - 1) []) 0) (rStr ((rSl r 4).getD i []) 0))) || !(vd n (((rSl r 4).getD i []).drop 1)))
theorem getD_mem {l : Rows} {i : Nat} (h : i < l.length) : l.getD i [] ∈ l := by
  rw [List.getD_eq_getElem?_getD, List.getElem?_eq_getElem h]
  exact List.getElem_mem _
theorem rAt_nat (l : Rows) (i : Nat) : rAt l (i : Int) = l.getD i [] := rfl
theorem valid_val : ∀ (n : Nat), n ≤ 1000 → ∀ (m : Nat) (r : Row), Nv m r → D (fun k => (value_valid.f k r (n : Int)).eval) (fun v => v = vd n r)
  | 0, _, m, r, h => by
    refine D.succ ?_
    exact D.opt (q := fun _ => True) (fun e => by cases e) (fun _ => trivial) (fun r0 _ => D.tt rfl (D.ret rfl))
  | n + 1, hn, 0, r, h => h.elim
  | n + 1, hn, m + 1, r, h => by
    obtain ⟨he, h3, h4, hs, hl, hf⟩ := h
    have ez : iEq ((n + 1 : Nat) : Int) 0 = false := by
      cases hc : iEq ((n + 1 : Nat) : Int) 0 with
      | false => rfl
      | true => have := iEq_iff.1 hc; omega
    have es : iSub .i64 ((n + 1 : Nat) : Int) 1 = (n : Int) := by rw [iSub_in (by omega) (by omega)]; omega
    refine D.succ ?_
    refine D.opt (q := fun v => v = sc r) (fun _ => ?_) (fun e => by rw [ez] at e; cases e) (fun r0 h0 => ?_)
    · show D (fun k => (value_scalar.f k (et 110 r)).eval) _
      rw [he]; exact scalar_val r hs
    subst h0
    have g1 : bIte (bIte (bIte (bIte (bIte (iEq ((n + 1 : Nat) : Int) 0) true (bNot (sc r))) true (bIte (bNot (iEq (rInt r 0) 4)) (iLt 0 (rLen (rSl r 3))) false)) true (bIte (bNot (iEq (rInt r 0) 5)) (iLt 0 (rLen (rSl r 4))) false)) true (iLt 64 (rLen (rSl r 3)))) true (iLt 64 (rLen (rSl r 4)))
        = !(sc r && !(bNot (iEq (rInt r 0) 4) && iLt 0 (rLen (rSl r 3))) && !(bNot (iEq (rInt r 0) 5) && iLt 0 (rLen (rSl r 4))) && !(iLt 64 (rLen (rSl r 3))) && !(iLt 64 (rLen (rSl r 4)))) := by
      rw [ez]
      simp only [bIte_and, bIte_or, show ∀ b, bNot b = !b from fun b => rfl]
      cases sc r <;> cases iEq (rInt r 0) 4 <;> cases iEq (rInt r 0) 5 <;> cases iLt 0 (rLen (rSl r 3)) <;> cases iLt 0 (rLen (rSl r 4)) <;> cases iLt 64 (rLen (rSl r 3)) <;> cases iLt 64 (rLen (rSl r 4)) <;> rfl
    unfold vd
    generalize (sc r && !(bNot (iEq (rInt r 0) 4) && iLt 0 (rLen (rSl r 3))) && !(bNot (iEq (rInt r 0) 5) && iLt 0 (rLen (rSl r 4))) && !(iLt 64 (rLen (rSl r 3))) && !(iLt 64 (rLen (rSl r 4)))) = c at g1 ⊢
    refine D.test (fun e => ?_) (fun e => ?_)
    · have e : (!c) = true := g1.symm.trans e
      have : c = false := by cases c; rfl; cases e
      subst this; exact D.ret rfl
    have e : (!c) = false := g1.symm.trans e
    have : c = true := by cases c; cases e; rfl
    subst this
    rw [Bool.true_and]
    refine D.cas (D.any h3 (fun i => !(vd n ((rSl r 3).getD i []))) (fun i hi => ?_) (fun i hi => ?_)) (fun x hx => ?_) (fun x hx => ?_)
    · refine D.tt (ilt_nat hi) (D.tt (iin_nat hi) ?_)
      have hm := hl _ (getD_mem hi)
      refine D.bnd (q := fun v => v = vd n ((rSl r 3).getD i [])) ?_ (fun b hb => ?_)
      · show D (fun k => (value_valid.f k (et 110 (rAt (rSl r 3) (i : Int))) (iSub .i64 ((n + 1 : Nat) : Int) 1)).eval) _
        rw [es, rAt_nat, hm.et]
        exact valid_val n (by omega) m _ hm
      · rw [← hb]
        exact D.test (fun e => D.ret (by rw [show (!b) = true from e]; rfl)) (fun e => D.ret (by rw [show (!b) = false from e]; rfl))
    · exact D.test (fun e => by rw [show iLt (i : Int) (rLen (rSl r 3)) = false from ilt_nat' hi] at e; cases e) (fun _ => D.ret rfl)
    · cases hc : (List.range (rSl r 3).length).any (fun i => !(vd n ((rSl r 3).getD i []))) with
      | true => rw [hc] at hx; injection hx with hx; subst hx; exact D.ret rfl
      | false => rw [hc] at hx; cases hx
    cases hc : (List.range (rSl r 3).length).any (fun i => !(vd n ((rSl r 3).getD i []))) with
    | true => rw [hc] at hx; cases hx
    | false =>
    clear hx hc
    refine D.mono (cas_any (α := Bool) (y := true) (D.any h4 (fun i => !(nOk (rStr ((rSl r 4).getD i []) 0)) || (Nat.blt 0 i && !(sLt (rStr ((rSl r 4).getD (i - 1) []) 0) (rStr ((rSl r 4).getD i []) 0))) || !(vd n (((rSl r 4).getD i []).drop 1))) (fun i hi => ?_) (fun i hi => ?_))) (fun v hv => ?_)
    · refine D.tt (ilt_nat hi) (D.tt (iin_nat hi) ?_)
      obtain ⟨hm1, hm2, hm3⟩ := hf _ (getD_mem hi)
      refine D.bnd (q := fun v => v = nOk (rStr ((rSl r 4).getD i []) 0)) (name_val _ hm2) (fun b hb => ?_)
      rw [← hb]
      have ei : iLt 0 (i : Int) = Nat.blt 0 i := by
        cases i with
        | zero => rfl
        | succ i => exact decide_eq_true (by omega)
      have ea : ∀ h : 0 < i, iSub .i64 (i : Int) 1 = ((i - 1 : Nat) : Int) := fun h => by rw [iSub_in (by omega) (by omega)]; omega
      have eb : bIte (bNot b) true (bIte (iLt 0 (i : Int)) (bNot (sLt (rStr (rAt (rSl r 4) (iSub .i64 (i : Int) 1)) 0) (rStr (rAt (rSl r 4) (i : Int)) 0))) false) = (!b || (Nat.blt 0 i && !(sLt (rStr ((rSl r 4).getD (i - 1) []) 0) (rStr ((rSl r 4).getD i []) 0)))) := by
        rw [bIte_or, bIte_and, ei]
        cases i with
        | zero => rfl
        | succ j => rw [ea (by omega)]; rfl
      refine D.tt (bimp_of (fun hc => ?_)) ?_
      · have hp := band_r hc
        have : 0 < i := by have := iLt_iff.1 hp; omega
        show iIn (iSub .i64 (i : Int) 1) (rLen (rSl r 4)) = true
        rw [ea this]; exact iin_nat (by omega)
      generalize (!b || (Nat.blt 0 i && !(sLt (rStr ((rSl r 4).getD (i - 1) []) 0) (rStr ((rSl r 4).getD i []) 0)))) = g at eb ⊢
      refine D.opt (q := fun v => g = false → v = vd n (((rSl r 4).getD i []).drop 1)) (fun _ => ?_) (fun e h => ?_) (fun w hw => ?_)
      · refine D.mono ?_ (fun v hv _ => hv)
        show D (fun k => (value_valid.f k (eo 110 (rAt (rSl r 4) (i : Int)) 1) (iSub .i64 ((n + 1 : Nat) : Int) 1)).eval) _
        rw [es, rAt_nat, eo1 hm1]
        exact valid_val n (by omega) m _ hm3
      · have e : bNot g = false := by rw [← eb]; exact e
        rw [h] at e; cases e
      · have key : bIte g true (bNot w) = (g || !(vd n (((rSl r 4).getD i []).drop 1))) := by
          cases hg : g with
          | true => rfl
          | false => rw [hw hg]; rfl
        have key' := (congrArg (fun q => bIte q true (bNot w)) eb).trans key
        exact D.test (fun e => D.ret (by rw [show (g || !(vd n (((rSl r 4).getD i []).drop 1))) = true from key'.symm.trans e]; rfl)) (fun e => D.ret (by rw [show (g || !(vd n (((rSl r 4).getD i []).drop 1))) = false from key'.symm.trans e]; rfl))
    · exact D.test (fun e => by rw [show iLt (i : Int) (rLen (rSl r 4)) = false from ilt_nat' hi] at e; cases e) (fun _ => D.ret rfl)
    · rw [hv]; simp
end
end Go.Proofs.YtolackmpfnndhaaGreatDoor.Ev
