/- Rows of a string and a number, sorted by slices.SortFunc. Conditions: stated at each. -/
import Derived.Test.YtilppppcafphbaaGreatSndE
import Derived.Shelf.SlSortCmp.NoneTotal
namespace Go.Proofs.YtilppppcafphbaaGreat.Ev
open Go Go.RowKit
set_option linter.unusedVariables false
set_option linter.unusedSimpArgs false
variable {P : Program}
def cntRow (x : ByteArray × Int) : Row := [.str x.1, .int .i64 x.2]
def cntEnc (x : ByteArray × Int) : List Value := [.string x.1, .int .i64 x.2]
def cntOf (r : Row) : ByteArray × Int := (rStr r 0, rInt r 1)
theorem cntOf_row (x : ByteArray × Int) : cntOf (cntRow x) = x := rfl
/-- A type of a string and a number. -/
structure CntT (P : Program) (t : Nat) : Prop where
  size : sizeT P t = some 2
  form : ∀ r : Row, eta P t r = cntRow (cntOf r)
theorem frozen_of_row {w : World} {b off : Nat} {arr : Array Value} {t : TypeId} (h : w.heap[b]? = some (.cells arr t (0, 0))) : w.frozen? ⟨b, off, none⟩ = false := by
  unfold World.frozen?
  rw [h]; simp
theorem flat_get2 (d : Array (ByteArray × Int)) (i j : Nat) (hi : i < d.size) (hj : j < 2) : (Sort.flatK cntEnc 2 d)[i * 2 + j]! = (cntEnc d[i]!)[j]! := by
  rw [Sort.get_flatK _ _ _ _ (by omega)]
  have e1 : (i * 2 + j) / 2 = i := by omega
  have e2 : (i * 2 + j) % 2 = j := by omega
  rw [e1, e2]
/-- An array of such rows, sorted by a call. -/
theorem sort_cnt {w0 : World} {F0 : Fz} {E : En} (hI : Inv P w0 F0 E) {n v t f : Nat} {es : Rows} {val fv : Value} (hT : CntT P t) (hg : E.hs.getD n none = some (.arr t v es)) (h : Rep P E val (.aref t n v none (rLen es))) (hlen : es.length < 4611686018427387904)
    {lt : ByteArray × Int → ByteArray × Int → Bool}
    (hsort : ∀ blk off cap (d : Array (ByteArray × Int)) w, Sort.HoldsK cntEnc 2 w blk off d → blk < w.heap.size → d.size < 4611686018427387904 → Calls P f #[.slice (some ⟨blk, off, none⟩) d.size cap, fv] w fun e w' => e = .returned (.tuple #[]) ∧ ∃ d' m os, Sort.PermIn 0 d.size d d' ∧ Sort.SortedIn lt 0 d.size d' ∧ w' = Go.Proofs.sortWorldK cntEnc 2 w blk off m d' os)
    (hnone : ∀ p cap w, Calls P f #[.slice p 0 cap, fv] w fun e w' => e = .returned (.tuple #[]) ∧ w' = w) :
    Calls P f #[val, fv] E.w fun e w' => e = .returned (.tuple #[]) ∧ ∃ (E' : En) (ds : List (ByteArray × Int)), E'.w = w' ∧ Inv P w0 F0 E' ∧ En.Le E E' ∧ E'.hs = E.hs.set n (some (.arr t v (ds.map cntRow))) ∧ ds.Perm (es.map cntOf) ∧ ds.Pairwise (fun a b => lt b a = false) := by
  obtain ⟨a0, c0, hv, g0, g1, g2, v'', es', q1, q2, q3⟩ := rep_aref_inv h
  rw [hg] at q1; injection q1 with q1; injection q1 with q1 q4 q5; subst q4; subst q5
  obtain ⟨a, cap, sz, k1, k2, k3, k4, k5, k6⟩ := q3 rfl
  rw [hT.size] at k2; injection k2 with k2; subst k2
  obtain ⟨a', cap', sz', m1, m2, m3, m4, m5, m6⟩ := hI.arr n t v es hg
  rw [k1] at m1; injection m1 with n1 n2 n3 n4; subst n1; subst n3; subst n4
  obtain ⟨e1, e2⟩ := k5 rfl
  subst e1; subst e2
  have hl : (rLen es).toNat = es.length := by simp [rLen]
  rw [hv, hl]
  have hform : ∀ (i : Nat) (r : Row), es[i]? = some r → r = cntRow (cntOf r) := fun i r hi => by rw [← hT.form r]; exact (m5 i r hi).2.symm
  have hrows : (es.map cntOf).map cntRow = es := by
    rw [List.map_map]
    refine List.ext_getElem? fun i => ?_
    rw [List.getElem?_map]
    cases hi : es[i]? with
    | none => rfl
    | some r => show some (cntRow (cntOf r)) = some r; rw [← hform i r hi]
  have hgt : n < E.hs.length := by
    rcases Nat.lt_or_ge n E.hs.length with h | h
    · exact h
    · rw [List.getD_eq_getElem?_getD, List.getElem?_eq_none h] at hg; cases hg
  rcases Nat.eq_zero_or_pos es.length with h0 | h0
  · have hes : es = [] := List.eq_nil_of_length_eq_zero h0
    rw [h0]
    refine (hnone a0 c0 E.w).mono ?_
    rintro e w' ⟨rfl, rfl⟩
    refine ⟨rfl, E, [], rfl, hI, En.Le.refl _, ?_, by rw [hes]; exact List.Perm.refl _, List.Pairwise.nil⟩
    refine List.ext_getElem? fun i => ?_
    rw [List.getElem?_set]
    split
    · rename_i hi
      subst hi
      rw [List.getD_eq_getElem?_getD] at hg
      cases hq : E.hs[n]? with
      | none => rw [hq] at hg; cases hg
      | some x => rw [hq] at hg; simp at hg; rw [hg, hes]; rfl
    · rfl
  · have hcap : 0 < c0 := by omega
    obtain ⟨b, arr, ty, p1, p2, p3, p4, p5, p6⟩ := m6 hcap
    subst p1
    have hsz : ((es.map cntOf).toArray).size = es.length := by simp
    have hcell : ∀ i j, i < es.length → j < 2 → arr.getD (i * 2 + j) undef = (cntEnc (((es.map cntOf).toArray)[i]!))[j]! := by
      intro i j hi hj
      have hr : es[i]? = some es[i] := List.getElem?_eq_getElem hi
      have hrow := hform i _ hr
      have hd : ((es.map cntOf).toArray)[i]! = cntOf es[i] := by simp [hi]
      rw [hd]
      match j, hj with
      | 0, _ =>
        have := p6 i es[i] 0 (.str (cntOf es[i]).1) hr (by rw [hrow]; rfl)
        exact rep_str_inv this
      | 1, _ =>
        have := p6 i es[i] 1 (.int .i64 (cntOf es[i]).2) hr (by rw [hrow]; rfl)
        exact rep_int_inv this
    have hsize : es.length * 2 ≤ arr.size := Nat.le_trans (Nat.mul_le_mul_right 2 m4) p4
    have hH : Sort.HoldsK cntEnc 2 E.w b 0 (es.map cntOf).toArray := by
      intro q hq
      rw [Sort.size_flatK, hsz] at hq
      refine ⟨?_, frozen_of_row p3⟩
      rw [Nat.zero_add, cell_of_row _ _ _ arr ty (0, 0) p3]
      have e : q = q / 2 * 2 + q % 2 := by omega
      have hlt : q < arr.size := by omega
      show arr[q]? = some (id (Sort.flatK cntEnc 2 (es.map cntOf).toArray)[q]!)
      have h1 := hcell (q / 2) (q % 2) (by omega) (by omega)
      have h2 := flat_get2 (es.map cntOf).toArray (q / 2) (q % 2) (by rw [hsz]; omega) (by omega)
      rw [← e] at h1 h2
      rw [id, h2, ← h1]
      simp [Array.getD_eq_getD_getElem?, hlt]
    have hbl : b < E.w.heap.size := (Array.getElem?_eq_some_iff.1 p3).1
    have hcall := hsort b 0 c0 (es.map cntOf).toArray E.w hH hbl (by rw [hsz]; exact hlen)
    rw [hsz] at hcall
    refine hcall.mono ?_
    rintro e w' ⟨rfl, d', m, os, hperm, hsorted, hw⟩
    refine ⟨rfl, ?_⟩
    have hd'sz : d'.size = es.length := by rw [hperm.1, hsz]
    let arr' : Array Value := Sort.putCells id 0 (Sort.flatK cntEnc 2 d') arr
    have hs' : arr'.size = arr.size := by simp [arr', Sort.putCells]
    have hget' : ∀ i j, i < es.length → j < 2 → arr'.getD (i * 2 + j) undef = (cntEnc d'[i]!)[j]! := by
      intro i j hi hj
      have hlt : i * 2 + j < arr.size := by omega
      have hlt2 : i * 2 + j < (Sort.flatK cntEnc 2 d').size := by rw [Sort.size_flatK]; omega
      have := flat_get2 d' i j (by omega) hj
      simp only [arr', Sort.putCells, Array.getD_eq_getD_getElem?, Array.getElem?_mapIdx, Array.getElem?_eq_getElem hlt, Option.map_some, Nat.zero_le, true_and, Nat.zero_add, hlt2, if_true, Nat.sub_zero, Option.getD_some, id]
      exact this
    have hlenm : (d'.toList.map cntRow).length = es.length := by simp [hd'sz]
    have hrow' : ∀ (i : Nat) (r : Row), (d'.toList.map cntRow)[i]? = some r → ∃ x, d'.toList[i]? = some x ∧ r = cntRow x := by
      intro i r hi
      rw [List.getElem?_map, Option.map_eq_some_iff] at hi
      obtain ⟨x, hx, rfl⟩ := hi
      exact ⟨x, hx, rfl⟩
    have turn := hI.arrTurn (v' := v) (es' := d'.toList.map cntRow) (arr' := arr') hg k1 hcap p3 (Or.inr ⟨rfl, hlenm⟩) (by rw [hlenm]; exact m4)
      (fun i r hi => by
        obtain ⟨x, _, rfl⟩ := hrow' i r hi
        exact ⟨rfl, hT.form _⟩) hs'
      (fun i r j x hi hj => by
        obtain ⟨y, hy, rfl⟩ := hrow' i r hi
        have hil : i < es.length := by
          rcases Nat.lt_or_ge i d'.toList.length with h | h
          · simpa [hd'sz] using h
          · rw [List.getElem?_eq_none h] at hy; cases hy
        have hyd : d'[i]! = y := by
          have : d'[i]? = some y := by simpa using hy
          simp [getElem!_def, this]
        match j, hj with
        | 0, hj =>
          injection hj with hj; subst hj
          rw [hget' i 0 hil (by omega), hyd]; exact .str _
        | 1, hj =>
          injection hj with hj; subst hj
          rw [hget' i 1 hil (by omega), hyd]; exact .int _ _
        | j + 2, hj => simp [cntRow] at hj)
    obtain ⟨t1, t2⟩ := turn
    -- the draws, the new blocks
    have hbelow : RowKit.Below (E.w.setRow b arr').heap.size (E.w.setRow b arr') w' := by
      rw [hw]
      unfold Go.Proofs.sortWorldK Sort.putRowK
      refine ⟨rfl, rfl, rfl, ?_, fun k hk => ?_⟩
      · show (E.w.setRow b arr').heap.size ≤ ((Sort.putRow id (Sort.ahead E.w m) b 0 (Sort.flatK cntEnc 2 d')).heap ++ os).size
        rw [setRow_size, Array.size_append]
        have : (Sort.putRow id (Sort.ahead E.w m) b 0 (Sort.flatK cntEnc 2 d')).heap.size = E.w.heap.size := by simp [Sort.putRow, Sort.mapBlock, Sort.ahead]
        omega
      · rw [setRow_size] at hk
        show ((Sort.putRow id (Sort.ahead E.w m) b 0 (Sort.flatK cntEnc 2 d')).heap ++ os)[k]? = _
        rw [Array.getElem?_append, if_pos (by simpa [Sort.putRow, Sort.mapBlock, Sort.ahead] using hk)]
        show (E.w.heap.modify b (Sort.onCells (Sort.putCells id 0 (Sort.flatK cntEnc 2 d'))))[k]? = _
        rw [Array.getElem?_modify]
        by_cases hkb : b = k
        · subst hkb
          rw [if_pos rfl, p3, setRow_heap _ _ _ _ _ _ p3]
          rfl
        · rw [if_neg hkb, setRow_other _ _ _ _ (Ne.symm hkb)]
    obtain ⟨u1, u2⟩ := t1.grow (F' := E.F) hbelow (fun _ _ h => h) (fun _ _ h => Or.inl h) (fun b o h => Nat.lt_of_lt_of_le (t1.Flt b o h) hbelow.size)
    refine ⟨_, d'.toList, rfl, u1, t2.trans u2, rfl, ?_, ?_⟩
    · have := hperm.2.2
      have e1 : d'.extract 0 es.length = d' := by rw [← hd'sz]; simp
      have ext : ∀ (A : Array (ByteArray × Int)) (q : Nat), q = A.size → A.extract 0 q = A := fun A q e => by subst e; simp
      have e2 := ext (es.map cntOf).toArray es.length hsz.symm
      rw [e1, e2] at this
      simpa using this
    · rw [List.pairwise_iff_getElem]
      intro i j hi hj hij
      have hi' : i < d'.size := by simpa using hi
      have hj' : j < d'.size := by simpa using hj
      have := hsorted i j (Nat.zero_le _) hij (by omega)
      simpa [getElem!_pos, hi', hj'] using this
end Go.Proofs.YtilppppcafphbaaGreat.Ev
