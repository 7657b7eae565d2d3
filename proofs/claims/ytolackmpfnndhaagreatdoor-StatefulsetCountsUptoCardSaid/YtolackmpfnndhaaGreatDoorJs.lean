/- The reference's validity, size and text of trees are the program's. Conditions: stated at each. -/
import Derived.Test.YtolackmpfnndhaaGreatDoorJq
namespace Go.Proofs.YtolackmpfnndhaaGreatDoor.Ev
open Go Go.RowKit
set_option linter.unusedVariables false
set_option maxRecDepth 100000
noncomputable section
theorem rtext_val (s : ByteArray) (hs : s.size ≤ 1048576) : D (fun k => (ref04_ValidString.f k s).eval) (fun v => v = tOk s) := by
  refine cas_any (α := Bool) (D.any hs _ (fun i hi => ?_) (fun i hi => ?_))
  · have h2 := iin_nat hi
    refine D.tt (ilt_nat hi) (D.tt h2 (D.tt (bimp_2 _ h2) (D.tt (bimp_2 _ h2) ?_)))
    exact D.test (fun e => D.ret (by rw [e]; rfl)) (fun e => D.ret (by rw [e]; rfl))
  · exact D.test (fun e => by rw [show iLt (i : Int) (sLen s) = false from ilt_nat' hi] at e; cases e) (fun _ => D.ret rfl)
theorem nC_eq (x : Int) : bIte (bIte (bIte (bIte (bNot (bIte (bIte (iLe (97) x) (iLe x (122)) false) true (bIte (iLe (65) x) (iLe x (90)) false))) (bNot (bIte (iLe (48) x) (iLe x (57)) false)) false) (bNot (iEq x (45))) false) (bNot (iEq x (95))) false) (bNot (iEq x (47))) false = nC x := by
  unfold nC
  generalize bIte (bIte (iLe (97) x) (iLe x (122)) false) true (bIte (iLe (65) x) (iLe x (90)) false) = a
  generalize bIte (iLe (48) x) (iLe x (57)) false = b
  generalize iEq x (45) = c; generalize iEq x (95) = d; generalize iEq x (47) = e
  cases a <;> cases b <;> cases c <;> cases d <;> cases e <;> rfl
theorem rname_val (s : ByteArray) (hs : s.size ≤ 1048576) : D (fun k => (ref04_ValidField.f k s).eval) (fun v => v = nOk s) := by
  refine cas_any (α := Bool) (D.any hs _ (fun i hi => ?_) (fun i hi => ?_))
  · have h2 := iin_nat hi
    refine D.tt (ilt_nat hi) (D.tt h2 ?_)
    exact D.test (fun e => D.ret (by rw [show nC (sAt s (i : Int)) = true from (nC_eq _).symm.trans e]; rfl)) (fun e => D.ret (by rw [show nC (sAt s (i : Int)) = false from (nC_eq _).symm.trans e]; rfl))
  · exact D.test (fun e => by rw [show iLt (i : Int) (sLen s) = false from ilt_nat' hi] at e; cases e) (fun _ => D.ret rfl)
theorem rscalar_val (r : Row) (hs : (rStr r 2).size ≤ 1048576) : D (fun k => (ref04_scalar.f k r).eval) (fun v => v = sc r) := by
  unfold sc
  refine D.test (fun e => D.ret ?_) (fun e1 => D.test (fun e => D.ret ?_) (fun e2 => D.test (fun e => ?_) (fun e3 => D.test (fun e => D.tt e (D.ret ?_)) (fun e4 => D.test (fun e => D.tt e (D.ret ?_)) (fun e5 => D.test (fun e => D.ret ?_) (fun e6 => D.ret ?_))))))
  · rw [e, bIte_and, bIte_or, Bool.and_comm]; rfl
  · rw [e1, e, bIte_and, bIte_and, Bool.and_comm, ← Bool.and_assoc]; rfl
  · rw [e1, e2, e]
    refine D.opt (q := fun v => iEq (rInt r 1) 0 = true → v = tOk (rStr r 2)) (fun _ => (rtext_val _ hs).mono (fun v hv _ => hv)) (fun e h => by rw [e] at h; cases h) (fun r0 h0 => D.ret ?_)
    cases hc : iEq (rInt r 1) 0 with
    | true => rw [h0 hc]; rfl
    | false => rfl
  · rw [e1, e2, e3, e, bIte_and]; rfl
  · rw [e1, e2, e3, e4, e, bIte_and]; rfl
  · rw [e1, e2, e3, e4, e5, e, bIte_and]; rfl
  · rw [e1, e2, e3, e4, e5, e6]; rfl
theorem sle_eq (a b : ByteArray) : bOr (sLt a b) (sEq a b) = !(sLt b a) := by
  have h1 := sLt_total a b
  show (sLt a b || sEq a b) = _
  cases h : sLt b a with
  | true =>
    rw [h] at h1
    have e : sLt a b = false := by cases hc : sLt a b; rfl; rw [hc] at h1; cases h1
    have e2 : sEq a b = false := by
      cases hc : sEq a b with
      | false => rfl
      | true =>
        have := sEq_iff.1 hc
        subst this
        rw [e] at h; cases h
    rw [e, e2]; rfl
  | false =>
    cases h2 : sLt a b with
    | true => rfl
    | false => rw [sEq_iff.2 (sLt_false h2 h)]; rfl
theorem rvalid_val : ∀ (n : Nat), n ≤ 1000 → ∀ (m : Nat) (r : Row), Nv m r → D (fun k => (ref04_valid.f k r (n : Int)).eval) (fun v => v = vd n r)
  | 0, _, m, r, h => by
    refine D.succ ?_
    exact D.opt (q := fun _ => True) (fun e => by cases e) (fun _ => trivial) (fun r0 _ => D.tt rfl (D.ret rfl))
  | n + 1, hn, 0, r, h => h.elim
  | n + 1, hn, m + 1, r, h => by
    obtain ⟨he, h3, h4, hs, hl, hf⟩ := h
    have ez : iEq ((n + 1 : Nat) : Int) 0 = false := by
      cases hc : iEq ((n + 1 : Nat) : Int) 0 with
      | false => rfl
      | true => have := iEq_iff.1 hc; omega
    have es : iSub .i64 ((n + 1 : Nat) : Int) 1 = (n : Int) := by rw [iSub_in (by omega) (by omega)]; omega
    refine D.succ ?_
    refine D.opt (q := fun v => v = sc r) (fun _ => ?_) (fun e => by rw [ez] at e; cases e) (fun r0 h0 => ?_)
    · show D (fun k => (ref04_scalar.f k (et 110 r)).eval) _
      rw [he]; exact rscalar_val r hs
    subst h0
    unfold vd
    refine D.test (fun e => D.ret ?_) (fun e1 => D.test (fun e => D.ret ?_) (fun e2 => ?_))
    · rw [ez] at e
      simp only [bIte_and, bIte_or, show ∀ b, bNot b = !b from fun b => rfl] at e ⊢
      cases hb : sc r <;> cases h1 : iLt 64 (rLen (rSl r 3)) <;> cases h2 : iLt 64 (rLen (rSl r 4)) <;> rw [hb, h1, h2] at e <;> first | (cases e; done) | simp
    · simp only [bIte_and, bIte_or, show ∀ b, bNot b = !b from fun b => rfl] at e ⊢
      generalize (!(iEq (rInt r 0) 4) && iLt 0 (rLen (rSl r 3))) = a at e ⊢
      generalize (!(iEq (rInt r 0) 5) && iLt 0 (rLen (rSl r 4))) = b at e ⊢
      cases a <;> cases b <;> first | (cases e; done) | simp
    have g : (sc r && !(bNot (iEq (rInt r 0) 4) && iLt 0 (rLen (rSl r 3))) && !(bNot (iEq (rInt r 0) 5) && iLt 0 (rLen (rSl r 4))) && !(iLt 64 (rLen (rSl r 3))) && !(iLt 64 (rLen (rSl r 4)))) = true := by
      rw [ez] at e1
      simp only [bIte_and, bIte_or, show ∀ b, bNot b = !b from fun b => rfl] at e1 e2 ⊢
      generalize (!(iEq (rInt r 0) 4) && iLt 0 (rLen (rSl r 3))) = a at e2 ⊢
      generalize (!(iEq (rInt r 0) 5) && iLt 0 (rLen (rSl r 4))) = b at e2 ⊢
      cases hb : sc r <;> cases h1 : iLt 64 (rLen (rSl r 3)) <;> cases h2 : iLt 64 (rLen (rSl r 4)) <;> rw [hb, h1, h2] at e1 <;> cases a <;> cases b <;> first | (cases e1; done) | (cases e2; done) | rfl
    rw [g, Bool.true_and]
    clear g e1 e2
    refine D.cas (q := fun v => v = bif (List.range (rSl r 3).length).any (fun i => !(vd n ((rSl r 3).getD i []))) then .inl false else .inr ()) ?_ (fun x hx => ?_) (fun x hx => ?_)
    · show D (fun k => iter (ref04_valid.s6 k (ref04_valid.f k) ((n + 1 : Nat) : Int) (et 110 r)) k 0) _
      rw [he]
      refine D.any h3 (fun i => !(vd n ((rSl r 3).getD i []))) (fun i hi => ?_) (fun i hi => ?_)
      · refine D.tt (ilt_nat hi) (D.tt (iin_nat hi) ?_)
        have hm := hl _ (getD_mem hi)
        refine D.bnd (q := fun v => v = vd n ((rSl r 3).getD i [])) ?_ (fun b hb => ?_)
        · show D (fun k => (ref04_valid.f k (et 110 (rAt (rSl r 3) (i : Int))) (iSub .i64 ((n + 1 : Nat) : Int) 1)).eval) _
          rw [es, rAt_nat, hm.et]
          exact rvalid_val n (by omega) m _ hm
        · rw [← hb]
          exact D.test (fun e => D.ret (by rw [show (!b) = true from e]; rfl)) (fun e => D.ret (by rw [show (!b) = false from e]; rfl))
      · exact D.test (fun e => by rw [show iLt (i : Int) (rLen (rSl r 3)) = false from ilt_nat' hi] at e; cases e) (fun _ => D.ret rfl)
    · cases hc : (List.range (rSl r 3).length).any (fun i => !(vd n ((rSl r 3).getD i []))) with
      | true => rw [hc] at hx; injection hx with hx; subst hx; exact D.ret rfl
      | false => rw [hc] at hx; cases hx
    cases hc : (List.range (rSl r 3).length).any (fun i => !(vd n ((rSl r 3).getD i []))) with
    | true => rw [hc] at hx; cases hx
    | false =>
    clear hx hc
    have key : D (fun k => iter (ref04_valid.s11 k (ref04_valid.f k) ((n + 1 : Nat) : Int) (et 110 r)) k 0) (fun v => v = bif (List.range (rSl r 4).length).any (fun i => !(nOk (rStr ((rSl r 4).getD i []) 0)) || (Nat.blt 0 i && !(sLt (rStr ((rSl r 4).getD (i - 1) []) 0) (rStr ((rSl r 4).getD i []) 0))) || !(vd n (((rSl r 4).getD i []).drop 1))) then .inl false else .inr ()) := by
      rw [he]
      refine D.any h4 (fun i => !(nOk (rStr ((rSl r 4).getD i []) 0)) || (Nat.blt 0 i && !(sLt (rStr ((rSl r 4).getD (i - 1) []) 0) (rStr ((rSl r 4).getD i []) 0))) || !(vd n (((rSl r 4).getD i []).drop 1))) (fun i hi => ?_) (fun i hi => ?_)
      · refine D.tt (ilt_nat hi) (D.tt (iin_nat hi) ?_)
        obtain ⟨hm1, hm2, hm3⟩ := hf _ (getD_mem hi)
        refine D.bnd (q := fun v => v = nOk (rStr ((rSl r 4).getD i []) 0)) (rname_val _ hm2) (fun b hb => ?_)
        rw [← hb]
        have ei : iLt 0 (i : Int) = Nat.blt 0 i := by
          cases i with
          | zero => rfl
          | succ i => exact decide_eq_true (by omega)
        have ea : ∀ h : 0 < i, iSub .i64 (i : Int) 1 = ((i - 1 : Nat) : Int) := fun h => by rw [iSub_in (by omega) (by omega)]; omega
        have eb : bIte (bNot b) true (bIte (iLt 0 (i : Int)) (bOr (sLt (rStr (rAt (rSl r 4) (i : Int)) 0) (rStr (rAt (rSl r 4) (iSub .i64 (i : Int) 1)) 0)) (sEq (rStr (rAt (rSl r 4) (i : Int)) 0) (rStr (rAt (rSl r 4) (iSub .i64 (i : Int) 1)) 0))) false) = (!b || (Nat.blt 0 i && !(sLt (rStr ((rSl r 4).getD (i - 1) []) 0) (rStr ((rSl r 4).getD i []) 0)))) := by
          rw [bIte_or, bIte_and, ei, sle_eq]
          cases i with
          | zero => rfl
          | succ j => rw [ea (by omega)]; rfl
        refine D.tt (bimp_2 _ (iin_nat hi)) (D.tt (bimp_of (fun hc => ?_)) (D.tt (bimp_2 _ (iin_nat hi)) ?_))
        · have hp := band_r hc
          have : 0 < i := by have := iLt_iff.1 hp; omega
          show iIn (iSub .i64 (i : Int) 1) (rLen (rSl r 4)) = true
          rw [ea this]; exact iin_nat (by omega)
        generalize (!b || (Nat.blt 0 i && !(sLt (rStr ((rSl r 4).getD (i - 1) []) 0) (rStr ((rSl r 4).getD i []) 0)))) = g at eb ⊢
        refine D.opt (q := fun v => g = false → v = vd n (((rSl r 4).getD i []).drop 1)) (fun _ => ?_) (fun e h => ?_) (fun w hw => ?_)
        · refine D.mono ?_ (fun v hv _ => hv)
          show D (fun k => (ref04_valid.f k (eo 110 (rAt (rSl r 4) (i : Int)) 1) (iSub .i64 ((n + 1 : Nat) : Int) 1)).eval) _
          rw [es, rAt_nat, eo1 hm1]
          exact rvalid_val n (by omega) m _ hm3
        · have e : bNot g = false := by rw [← eb]; exact e
          rw [h] at e; cases e
        · have key : bIte g true (bNot w) = (g || !(vd n (((rSl r 4).getD i []).drop 1))) := by
            cases hg : g with
            | true => rfl
            | false => rw [hw hg]; rfl
          have key' := (congrArg (fun q => bIte q true (bNot w)) eb).trans key
          exact D.test (fun e => D.ret (by rw [show (g || !(vd n (((rSl r 4).getD i []).drop 1))) = true from key'.symm.trans e]; rfl)) (fun e => D.ret (by rw [show (g || !(vd n (((rSl r 4).getD i []).drop 1))) = false from key'.symm.trans e]; rfl))
      · exact D.test (fun e => by rw [show iLt (i : Int) (rLen (rSl r 4)) = false from ilt_nat' hi] at e; cases e) (fun _ => D.ret rfl)
    refine D.mono (cas_any (α := Bool) (y := true) key) (fun v hv => ?_)
    rw [hv]; simp
theorem mem_sum (l : Rows) (g : Row → Nat) (i : Nat) (hi : i < l.length) : g (l.getD i []) ≤ (l.map g).sum := by
  have := part_le l g (i + 1) hi
  rw [List.range_succ, List.map_append, List.sum_append] at this
  simp only [List.map_cons, List.map_nil, List.sum_cons, List.sum_nil] at this; omega
theorem rsize_val : ∀ (n : Nat) (r : Row), Nv n r → sz n r ≤ 9223372036854775807 → D (fun k => (ref04_Size.f k r).eval) (fun v => v = (sz n r : Int))
  | 0, r, h, _ => h.elim
  | n + 1, r, h, hb => by
    obtain ⟨he, h3, h4, hs, hl, hf⟩ := h
    have hb : 1 + ((rSl r 3).map (sz n)).sum + ((rSl r 4).map fun q => sz n (q.drop 1)).sum ≤ 9223372036854775807 := hb
    refine D.succ ?_
    refine D.bnd (q := fun v => v = ((1 + ((rSl r 3).map (sz n)).sum : Nat) : Int)) ?_ (fun r0 h0 => ?_)
    · show D (fun k => iter (ref04_Size.s3 k (ref04_Size.f k) (et 110 r)) k (1, 0)) _
      rw [he]
      refine D.sum h3 (sz n) 1 (by omega) (fun i x hi => ?_) (fun i x hi => ?_)
      · refine D.tt (ilt_nat hi) (D.tt (iin_nat hi) ?_)
        have hm := hl _ (getD_mem hi)
        refine D.bnd (q := fun v => v = (sz n ((rSl r 3).getD i []) : Int)) ?_ (fun b hb => by subst hb; exact D.ret rfl)
        show D (fun k => (ref04_Size.f k (et 110 (rAt (rSl r 3) (i : Int)))).eval) _
        rw [rAt_nat, hm.et]
        exact rsize_val n _ hm (by have := mem_sum (rSl r 3) (sz n) i hi; omega)
      · exact D.test (fun e => by rw [show iLt (i : Int) (rLen (rSl r 3)) = false from ilt_nat' hi] at e; cases e) (fun _ => D.ret rfl)
    subst h0
    refine D.bnd (q := fun v => v = (sz (n + 1) r : Int)) ?_ (fun r0 h0 => by subst h0; exact D.ret rfl)
    show D (fun k => iter (ref04_Size.s7 k (ref04_Size.f k) (et 110 r)) k (((1 + ((rSl r 3).map (sz n)).sum : Nat) : Int), 0)) _
    rw [he]
    refine D.sum h4 (fun q => sz n (q.drop 1)) _ (by omega) (fun i x hi => ?_) (fun i x hi => ?_)
    · refine D.tt (ilt_nat hi) (D.tt (iin_nat hi) ?_)
      obtain ⟨hm1, hm2, hm3⟩ := hf _ (getD_mem hi)
      refine D.bnd (q := fun v => v = (sz n (((rSl r 4).getD i []).drop 1) : Int)) ?_ (fun b hb => by subst hb; exact D.ret rfl)
      show D (fun k => (ref04_Size.f k (eo 110 (rAt (rSl r 4) (i : Int)) 1)).eval) _
      rw [rAt_nat, eo1 hm1]
      exact rsize_val n _ hm3 (by have : sz n (((rSl r 4).getD i []).drop 1) ≤ ((rSl r 4).map fun q => sz n (q.drop 1)).sum := mem_sum (rSl r 4) (fun q => sz n (q.drop 1)) i hi; omega)
    · exact D.test (fun e => by rw [show iLt (i : Int) (rLen (rSl r 4)) = false from ilt_nat' hi] at e; cases e) (fun _ => D.ret rfl)
theorem rValid_val {n : Nat} (hn : n ≤ 8) {r : Row} (h : Nv n r) : D (fun k => (ref04_Valid.f k r).eval) (fun v => v = okV n r) := by
  have he := h.et
  refine D.bnd (q := fun v => v = vd 12 r) ?_ (fun b hb => ?_)
  · show D (fun k => (ref04_valid.f k (et 110 r) 12).eval) _
    rw [he]; exact rvalid_val 12 (by decide) n r h
  subst hb
  unfold okV
  cases hc : vd 12 r with
  | false => exact D.opt (q := fun _ => True) (fun e => by cases e) (fun _ => trivial) (fun _ _ => D.ret rfl)
  | true =>
    have h1 := sz_le n 12 r hc
    have h2 : 129 ^ n ≤ 129 ^ 8 := Nat.pow_le_pow_right (by decide) hn
    have h3 : (129 : Nat) ^ 8 ≤ 9223372036854775807 := by decide
    refine D.opt (q := fun v => v = (sz n r : Int)) (fun _ => ?_) (fun e => by cases e) (fun b hb => D.ret ?_)
    · show D (fun k => (ref04_Size.f k (et 110 r)).eval) _
      rw [he]; exact rsize_val n r h (by omega)
    · subst hb
      show iLe (sz n r : Int) 600 = _
      unfold iLe
      by_cases h : sz n r ≤ 600
      · rw [decide_eq_true h, decide_eq_true (by omega)]; rfl
      · rw [decide_eq_false h, decide_eq_false (by omega)]; rfl
end
end Go.Proofs.YtolackmpfnndhaaGreatDoor.Ev
