/- Trees of values: clone, List and Map of the program give what they are given, in the type's form. Conditions: stated at each. -/
import Derived.Test.YtolackmpfnndhaaGreatDoorE1
import Derived.Test.YtolackmpfnndhaaGreatDoorWk
namespace Go.Proofs.YtolackmpfnndhaaGreatDoor.Ev
open Go Go.RowKit
set_option linter.unusedVariables false
set_option maxRecDepth 100000
noncomputable section
theorem D.eqn {α : Type} {F : Nat → Option α} {v : α} (h : ∀ k, F k = some v) : D F (fun x => x = v) := ⟨v, rfl, 0, fun k _ => h k⟩
theorem D.succ {α : Type} {F : Nat → Option α} {p : α → Prop} (h : D (fun k => F (k + 1)) p) : D F p := by
  obtain ⟨v, hv, K, h⟩ := h
  refine ⟨v, hv, K + 1, fun k hk => ?_⟩
  obtain ⟨m, rfl⟩ : ∃ m, k = m + 1 := ⟨k - 1, by omega⟩
  exact h m (by omega)
theorem D.of_eq {α : Type} {F G : Nat → Option α} {p : α → Prop} (e : ∀ k, F k = G k) (h : D G p) : D F p := by
  obtain ⟨v, hv, K, h⟩ := h
  exact ⟨v, hv, K, fun k hk => (e k).trans (h k hk)⟩
theorem Nat.lt_of_ble {n m : Nat} (h : Nat.ble (n + 1) m = true) : n < m := Nat.le_of_ble_eq_true h
/-- The values of each kind. -/
def nm (n : Int) : Row := [.int .i64 2, .int .i64 n, .str ByteArray.empty, .slice 110 [] .open, .slice 120 [] .open]
def st (s : ByteArray) : Row := [.int .i64 3, .int .i64 0, .str s, .slice 110 [] .open, .slice 120 [] .open]
def tr (b : Bool) : Row := [.int .i64 1, .int .i64 (bif b then 1 else 0), .str ByteArray.empty, .slice 110 [] .open, .slice 120 [] .open]
def li (l : Rows) : Row := [.int .i64 4, .int .i64 0, .str ByteArray.empty, .slice 110 l .open, .slice 120 [] .open]
def ob (l : Rows) : Row := [.int .i64 5, .int .i64 0, .str ByteArray.empty, .slice 110 [] .open, .slice 120 l .open]
def fd (s : ByteArray) (r : Row) : Row := .str s :: r
/-- A tree of at most n levels, in its type's form, of lists that are not too long. -/
def Nv : Nat → Row → Prop
  | 0, _ => False
  | n + 1, r => et 110 r = r ∧ (rSl r 3).length ≤ 1048576 ∧ (rSl r 4).length ≤ 1048576 ∧ (rStr r 2).size ≤ 1048576 ∧ (∀ q, q ∈ rSl r 3 → Nv n q) ∧ ∀ q, q ∈ rSl r 4 → et 120 q = q ∧ (rStr q 0).size ≤ 1048576 ∧ Nv n (q.drop 1)
def Nf (n : Nat) (q : Row) : Prop := et 120 q = q ∧ (rStr q 0).size ≤ 1048576 ∧ Nv n (q.drop 1)
theorem Nv.et {n : Nat} {r : Row} (h : Nv n r) : et 110 r = r := by
  cases n with
  | zero => exact h.elim
  | succ n => exact h.1
theorem Nv.up : ∀ {n : Nat} {r : Row}, Nv n r → Nv (n + 1) r
  | 0, _, h => h.elim
  | n + 1, r, ⟨h1, h2, h3, hs, h4, h5⟩ => ⟨h1, h2, h3, hs, fun q hq => (h4 q hq).up, fun q hq => ⟨(h5 q hq).1, (h5 q hq).2.1, (h5 q hq).2.2.up⟩⟩
theorem Nv.le {n m : Nat} {r : Row} (h : Nv n r) (k : n ≤ m) : Nv m r := by
  obtain ⟨j, rfl⟩ : ∃ j, m = n + j := ⟨m - n, by omega⟩
  clear k
  induction j with
  | zero => exact h
  | succ j ih => exact ih.up
theorem Nf.le {n m : Nat} {r : Row} (h : Nf n r) (k : n ≤ m) : Nf m r := ⟨h.1, h.2.1, h.2.2.le k⟩
theorem nv_nm (n : Int) : Nv 1 (nm n) := ⟨by kernel_rfl, Nat.zero_le _, Nat.zero_le _, Nat.zero_le _, all_nil, fun q h => by cases h⟩
theorem nv_st {s : ByteArray} (hs : s.size ≤ 1048576) : Nv 1 (st s) := ⟨by kernel_rfl, Nat.zero_le _, Nat.zero_le _, hs, all_nil, fun q h => by cases h⟩
theorem nv_tr (b : Bool) : Nv 1 (tr b) := ⟨by kernel_rfl, Nat.zero_le _, Nat.zero_le _, Nat.zero_le _, all_nil, fun q h => by cases h⟩
theorem nv_li {n : Nat} {l : Rows} (hl : l.length ≤ 1048576) (h : ∀ q, q ∈ l → Nv n q) : Nv (n + 1) (li l) := ⟨by kernel_rfl, hl, Nat.zero_le _, Nat.zero_le _, h, fun q h => by cases h⟩
theorem nv_ob {n : Nat} {l : Rows} (hl : l.length ≤ 1048576) (h : ∀ q, q ∈ l → Nf n q) : Nv (n + 1) (ob l) := ⟨by kernel_rfl, Nat.zero_le _, hl, Nat.zero_le _, all_nil, h⟩
theorem row5 {r : Row} (h : et 110 r = r) : [V.int .i64 (rInt r 0), .int .i64 (rInt r 1), .str (rStr r 2), .slice 110 (rSl r 3) .open, .slice 120 (rSl r 4) .open] = r := Eq.trans (by kernel_rfl) h
theorem row6 {r : Row} (h : et 120 r = r) : [V.str (rStr r 0), .int .i64 (rInt r 1), .int .i64 (rInt r 2), .str (rStr r 3), .slice 110 (rSl r 4) .open, .slice 120 (rSl r 5) .open] = r := Eq.trans (by kernel_rfl) h
theorem eo1 {q : Row} (h : et 120 q = q) : eo 110 q 1 = q.drop 1 := by
  rw [← row6 h]; kernel_rfl
theorem fld {q : Row} (h : et 120 q = q) : rJ [[.str (rStr q 0)], q.drop 1] = q := by
  rw [← row6 h]; kernel_rfl
theorem nf_fd {n : Nat} {s : ByteArray} {r : Row} (hs : s.size ≤ 1048576) (h : Nv n r) : Nf n (fd s r) := by
  refine ⟨?_, hs, h⟩
  rw [← row5 h.et]; kernel_rfl
theorem take_all (l : Rows) : rTake l (rLen l) = l := by unfold rTake rLen; simp
theorem set_same {l : Rows} {i : Int} (h : 0 ≤ i) : rSet l i (rAt l i) = l := by
  unfold rSet rAt
  rcases Nat.lt_or_ge i.toNat l.length with h1 | h1
  · rw [List.getD_eq_getElem?_getD, List.getElem?_eq_getElem h1]
    exact List.set_getElem_self h1
  · exact List.set_eq_of_length_le h1
theorem at_mem {l : Rows} {i : Int} (h : 0 ≤ i) (k : iLt i (rLen l) = true) : rAt l i ∈ l := by
  have k := of_decide_eq_true k
  unfold rLen at k
  unfold rAt
  rw [List.getD_eq_getElem?_getD, List.getElem?_eq_getElem (by omega : i.toNat < l.length)]
  exact List.getElem_mem _
theorem rok1 {b : Nat} {l : Rows} (hb : b ≤ 134217728) (h : l.length ≤ 1048576) : rOk b 0 (rLen l) = true := by
  unfold rOk rLen
  refine decide_eq_true ?_
  have h1 : (0 + (l.length : Int)) * (b : Int) ≤ 1048576 * (b : Int) := Int.mul_le_mul_of_nonneg_right (by omega) (by omega)
  exact Int.le_trans h1 (by omega)
/-- A loop that puts each row where it was. -/
theorem D.same {s : Nat → Int × Rows → T ((Int × Rows) ⊕ Rows)} {l : Rows} (hb : l.length ≤ 1048576)
    (h : ∀ i, 0 ≤ i → iLt i (rLen l) = true → D (fun k => (s k (i, l)).eval) (fun v => v = .inl (iAdd .i64 i 1, l)))
    (he : ∀ i, iLt i (rLen l) = false → D (fun k => (s k (i, l)).eval) (fun v => v = .inr l)) : D (fun k => iter (s k) k (0, l)) (fun v => v = l) := by
  refine D.loop (fun x => 0 ≤ x.1 ∧ x.1 ≤ rLen l ∧ x.2 = l) (fun x => (rLen l - x.1).toNat) _ (fun x hx => ?_) _ ⟨Int.le_refl _, by unfold rLen; simp, rfl⟩
  obtain ⟨i, l'⟩ := x
  obtain ⟨h1, h2, h3⟩ := hx
  simp only at h1 h2 h3
  subst h3
  cases hi : iLt i (rLen l') with
  | true =>
    refine (h i h1 hi).mono ?_
    rintro _ rfl
    have := of_decide_eq_true hi
    have hl : rLen l' ≤ 1048576 := by unfold rLen; omega
    simp only
    rw [iAdd_one h1 (by omega)]
    exact ⟨⟨by omega, by omega, trivial⟩, by omega⟩
  | false =>
    refine (he i hi).mono ?_
    rintro _ rfl
    rfl
/-- A loop that makes one row of each. -/
theorem D.madeV {s : Nat → Rows × Int → T ((Rows × Int) ⊕ Rows)} {es : Rows} (hb : es.length ≤ 1048576) (g : Row → Row)
    (h : ∀ out i, 0 ≤ i → iLt i (rLen es) = true → rLen out = i → D (fun k => (s k (out, i)).eval) (fun v => v = .inl (rCat out [g (rAt es i)], iAdd .i64 i 1)))
    (he : ∀ out i, iLt i (rLen es) = false → D (fun k => (s k (out, i)).eval) (fun v => v = .inr out)) : D (fun k => iter (s k) k ([], 0)) (fun v => v = es.map g) := by
  refine D.loop (fun x => 0 ≤ x.2 ∧ x.2 ≤ rLen es ∧ x.1 = (es.take x.2.toNat).map g) (fun x => (rLen es - x.2).toNat) _ (fun x hx => ?_) _ ⟨Int.le_refl _, by unfold rLen; simp, rfl⟩
  obtain ⟨out, i⟩ := x
  obtain ⟨h1, h2, h3⟩ := hx
  simp only at h1 h2 h3
  subst h3
  have hl : rLen es ≤ 1048576 := by unfold rLen; omega
  cases hi : iLt i (rLen es) with
  | true =>
    have hlt := of_decide_eq_true hi
    refine (h _ i h1 hi (by unfold rLen at hlt ⊢; simp; omega)).mono ?_
    rintro _ rfl
    simp only
    rw [iAdd_one h1 (by omega)]
    refine ⟨⟨by omega, by omega, ?_⟩, by omega⟩
    have e : (i + 1).toNat = i.toNat + 1 := by omega
    unfold rLen at hlt
    have hn : i.toNat < es.length := by omega
    rw [e, List.take_succ_eq_append_getElem hn]
    unfold rCat rAt
    rw [List.getD_eq_getElem?_getD, List.getElem?_eq_getElem hn, List.map_append]
    rfl
  | false =>
    refine (he _ i hi).mono ?_
    rintro _ rfl
    have hlt := of_decide_eq_false hi
    show (es.take i.toNat).map g = es.map g
    rw [List.take_of_length_le (by unfold rLen at hlt; omega)]
theorem clone_val : ∀ (n : Nat) (r : Row), Nv n r → D (fun k => (value_clone.f k r).eval) (fun v => v = r)
  | 0, r, h => h.elim
  | n + 1, r, h => by
    obtain ⟨he, h3, h4, _, hl, hf⟩ := h
    refine D.succ ?_
    refine D.bnd (q := fun v => v = (rSl r 3, rLen (rSl r 3))) (D.tt (rok1 (by decide) h3) (D.ret rfl)) (fun r0 h0 => ?_)
    subst h0
    refine D.bnd (q := fun v => v = rSl r 3) (D.same h3 (fun i hi hlt => ?_) (fun i hlt => ?_)) (fun r1 h1 => ?_)
    · refine D.tt hlt (D.tt (iIn_of hi hlt) ?_)
      have hm := hl _ (at_mem hi hlt)
      refine D.bnd (q := fun v => v = rAt (rSl r 3) i) ?_ (fun r1 h1 => ?_)
      · have := clone_val n _ hm
        show D (fun k => (value_clone.f k (et 110 (rAt (rSl r 3) i))).eval) _
        rw [hm.et]; exact this
      · subst h1
        refine D.tt (iIn_of hi hlt) (D.ret ?_)
        show Sum.inl (iAdd .i64 i 1, rSet (rSl r 3) i (et 110 (rAt (rSl r 3) i))) = _
        rw [hm.et, set_same hi]
    · exact D.test (fun e => by rw [show iLt i (rLen (rSl r 3)) = false from hlt] at e; cases e) (fun _ => D.ret rfl)
    subst h1
    refine D.bnd (q := fun v => v = (rSl r 4, rLen (rSl r 4))) (D.tt (rok1 (by decide) h4) (D.ret rfl)) (fun r0 h0 => ?_)
    subst h0
    refine D.bnd (q := fun v => v = rSl r 4) (D.same h4 (fun i hi hlt => ?_) (fun i hlt => ?_)) (fun r1 h1 => ?_)
    · refine D.tt hlt (D.tt (iIn_of hi hlt) ?_)
      have hm := hf _ (at_mem hi hlt)
      refine D.bnd (q := fun v => v = (rAt (rSl r 4) i).drop 1) ?_ (fun r1 h1 => ?_)
      · have := clone_val n _ hm.2.2
        show D (fun k => (value_clone.f k (eo 110 (rAt (rSl r 4) i) 1)).eval) _
        rw [eo1 hm.1]; exact this
      · subst h1
        refine D.tt (iIn_of hi hlt) (D.ret ?_)
        show Sum.inl (iAdd .i64 i 1, rSet (rSl r 4) i (rJ [[.str (rStr (rAt (rSl r 4) i) 0)], et 110 ((rAt (rSl r 4) i).drop 1)])) = _
        rw [hm.2.2.et, fld hm.1, set_same hi]
    · exact D.test (fun e => by rw [show iLt i (rLen (rSl r 4)) = false from hlt] at e; cases e) (fun _ => D.ret rfl)
    subst h1
    refine D.ret ?_
    show [V.int .i64 (rInt r 0), .int .i64 (rInt r 1), .str (rStr r 2), .slice 110 (rTake (rSl r 3) (rLen (rSl r 3))) .open, .slice 120 (rTake (rSl r 4) (rLen (rSl r 4))) .open] = r
    rw [take_all, take_all]
    exact row5 he
theorem list_val {n : Nat} {l : Rows} (hl : l.length ≤ 1048576) (h : ∀ q, q ∈ l → Nv n q) : D (fun k => (value_List.f k l).eval) (fun v => v = li l) := by
  refine D.bnd (q := fun v => v = li l) (clone_val (n + 1) _ (nv_li hl h)) (fun r hr => ?_)
  subst hr
  exact D.ret (by kernel_rfl)
/-- Names side by side differ. -/
def dst : Rows → Bool
  | a :: b :: l => !(sEq (rStr b 0) (rStr a 0)) && dst (b :: l)
  | _ => true
theorem dst_at : ∀ {l : Rows} {i : Nat}, dst l = true → i + 1 < l.length → sEq (rStr (l.getD (i + 1) []) 0) (rStr (l.getD i []) 0) = false
  | [], _, _, h => by simp at h
  | [_], _, _, h => by simp at h
  | a :: b :: l, 0, h, _ => by
    have := (Bool.and_eq_true_iff.1 h).1
    simpa using this
  | a :: b :: l, i + 1, h, hi => dst_at (l := b :: l) (i := i) (Bool.and_eq_true_iff.1 h).2 (by simpa using hi)
theorem map_val {n : Nat} {l : Rows} (hl : l.length < 20) (hs : sortC l = l) (hd : dst l = true) (h : ∀ q, q ∈ l → Nf n q) : D (fun k => (value_Map.f k l).eval) (fun v => v = ob l) := by
  have hl1 : l.length ≤ 1048576 := by omega
  refine D.bnd (q := fun v => v = (l, rLen l)) (D.tt (rok1 (by decide) hl1) (D.ret rfl)) (fun r0 h0 => ?_)
  subst h0
  refine D.tt (by show iEq (rLen (rTake l (rLen l))) (rLen l) = true; rw [take_all]; exact iEq_refl _) ?_
  refine D.bnd (q := fun v => v = (l, rLen l)) ?_ (fun r1 h1 => ?_)
  · show D (fun k => (slices_SortStableFunc_api_Field_api_Field.f k (rTake l (rLen l))).eval) _
    rw [take_all]
    refine D.tt (iLt_iff.2 (by unfold rLen; omega)) (D.ret ?_)
    rw [hs]
  subst h1
  refine D.bnd (q := fun v => v = l) ?_ (fun r2 h2 => ?_)
  · show D (fun k => iter (value_Map.s5 k (rTake l (rLen l)) (rTake l (rLen l)) (rLen (rTake l (rLen l))) 5 0 ByteArray.empty [] [.int .i64 0, .int .i64 0, .str ByteArray.empty, .slice 110 [] .open, .slice 120 [] .open]) k (0, [])) _
    rw [take_all]
    have key : ∀ x : Int × Rows, (0 ≤ x.1 ∧ x.1 ≤ rLen l ∧ x.2 = l.take x.1.toNat) → D (fun k => (value_Map.s5 k l l (rLen l) 5 0 ByteArray.empty [] [.int .i64 0, .int .i64 0, .str ByteArray.empty, .slice 110 [] .open, .slice 120 [] .open] x).eval) (fun v => match v with | .inl y => (0 ≤ y.1 ∧ y.1 ≤ rLen l ∧ y.2 = l.take y.1.toNat) ∧ (rLen l - y.1).toNat < (rLen l - x.1).toNat | .inr r => r = l) := by
      rintro ⟨i, out⟩ ⟨h1, h2, h3⟩
      simp only at h1 h2 h3
      subst h3
      have hlr : rLen l < 20 := by unfold rLen; omega
      cases hi : iLt i (rLen l) with
      | true =>
        have hlt := iLt_iff.1 hi
        have hn : i.toNat < l.length := by unfold rLen at hlt; omega
        have e1 : iAdd .i64 i 1 = i + 1 := iAdd_one h1 (by omega)
        have hq := h _ (at_mem h1 hi)
        refine D.tt hi (D.tt (iIn_of h1 hi) (D.tt ?_ (D.tt ?_ (D.tt ?_ (D.ret ?_)))))
        · show bImp (bNot (iEq (iAdd .i64 i 1) (rLen l))) (iIn (iAdd .i64 i 1) (rLen l)) = true
          rw [e1]
          refine bimp_of (fun hne => ?_)
          have := bnot_t hne
          have hne : ¬ (i + 1 = rLen l) := fun e => by rw [iEq_iff.2 e] at this; cases this
          exact decide_eq_true ⟨by omega, by omega⟩
        · show bIte (iEq (iAdd .i64 i 1) (rLen l)) true (bNot (sEq (rStr (rAt l (iAdd .i64 i 1)) 0) (rStr (rAt l i) 0))) = true
          rw [e1]
          cases hc : iEq (i + 1) (rLen l) with
          | true => rfl
          | false =>
            have hne : ¬ (i + 1 = rLen l) := fun e => by rw [iEq_iff.2 e] at hc; cases hc
            have := dst_at (i := i.toNat) hd (by unfold rLen at hne hlt; omega)
            have e2 : (i + 1).toNat = i.toNat + 1 := by omega
            show bNot (sEq (rStr (l.getD (i + 1).toNat []) 0) (rStr (l.getD i.toNat []) 0)) = true
            rw [e2, this]; rfl
        · show rOk 96 (rLen (l.take i.toNat)) _ = true
          refine rOk_of (by decide) ?_ ?_ rfl
          · unfold rLen; simp; omega
          · unfold rLen; omega
        · show (0 ≤ iAdd .i64 i 1 ∧ iAdd .i64 i 1 ≤ rLen l ∧ rCat (l.take i.toNat) [rJ [[.str (rStr (rAt l i) 0)], eo 110 (rAt l i) 1]] = l.take (iAdd .i64 i 1).toNat) ∧ _
          rw [e1, eo1 hq.1, fld hq.1]
          refine ⟨⟨by omega, by omega, ?_⟩, by simp only; omega⟩
          have e2 : (i + 1).toNat = i.toNat + 1 := by omega
          rw [e2, List.take_succ_eq_append_getElem hn]
          unfold rCat rAt
          rw [List.getD_eq_getElem?_getD, List.getElem?_eq_getElem hn]
          rfl
      | false =>
        refine D.test (fun e => by rw [show iLt i (rLen l) = false from hi] at e; cases e) (fun _ => D.ret ?_)
        have hlt := of_decide_eq_false hi
        show l.take i.toNat = l
        exact List.take_of_length_le (by unfold rLen at hlt; omega)
    exact D.loop (fun x : Int × Rows => 0 ≤ x.1 ∧ x.1 ≤ rLen l ∧ x.2 = l.take x.1.toNat) (fun x => (rLen l - x.1).toNat) _ (fun x hx => (key x hx).mono (fun v hv => by cases v <;> exact hv)) _ ⟨Int.le_refl _, by unfold rLen; simp, rfl⟩
  subst h2
  refine D.bnd (q := fun v => v = ob r2) (clone_val (n + 1) _ (nv_ob hl1 h)) (fun r3 h3 => ?_)
  subst h3
  exact D.ret (by kernel_rfl)
end
end Go.Proofs.YtolackmpfnndhaaGreatDoor.Ev
