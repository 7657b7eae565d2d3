/- An array sorted by a call that keeps the order of equal rows. Conditions: stated at each. -/
import Derived.Test.YtolackmpfnndhaaGreatDoorSts
namespace Go.Proofs.YtolackmpfnndhaaGreatDoor.Ev
open Go Go.RowKit
set_option linter.unusedVariables false
set_option linter.unusedSimpArgs false
variable {P : Program}
theorem frozen_of_row' {w : World} {b off : Nat} {arr : Array Value} {t : TypeId} (h : w.heap[b]? = some (.cells arr t (0, 0))) : w.frozen? ⟨b, off, none⟩ = false := by
  unfold World.frozen?
  rw [h]; simp
theorem etaL_one {E : En} {r : Row} : ∀ (l : List Nat) (k j : Nat) (x : V), (l.all (xOk P)) = true → (etaL P r k l)[j]? = some x → ∀ v, Rep P E v x → v.oneCell' = true
  | [], _, _, _, _, h, _, _ => by simp [etaL] at h
  | t :: l, k, 0, x, ha, h, v, hr => by
    simp only [List.all_cons, Bool.and_eq_true] at ha
    simp only [etaL, List.getElem?_cons_zero, Option.some.injEq] at h
    subst h
    have h1 := ha.1
    unfold xOk at h1
    unfold etaX at hr
    split at h1
    · rename_i hu
      rw [hu] at hr
      have hr : Rep P E v (etaE P r k (t - 1000)) := hr
      unfold etaE at hr
      split at h1
      · rename_i hs; rw [hs] at hr; cases hr; rfl
      · cases h1
    · rename_i u hu
      rw [hu] at hr
      have hr : Rep P E v (etaC P r k t) := hr
      unfold etaC at hr
      unfold cOk at h1
      rw [hu] at h1 hr
      cases u <;> first | (simp at h1; done) | (cases hr <;> rfl)
  | t :: l, k, j + 1, x, ha, h, v, hr => by
    simp only [List.all_cons, Bool.and_eq_true] at ha
    simp only [etaL, List.getElem?_cons_succ] at h
    exact etaL_one l (k + 1) j x ha.2 h v hr
theorem flat_getK {enc : Nat → List Value} {sz : Nat} (d : Array Nat) (i j : Nat) (hi : i < d.size) (hj : j < sz) : (Sort.flatK enc sz d)[i * sz + j]! = (enc d[i]!)[j]! := by
  have h1 : (i + 1) * sz ≤ d.size * sz := Nat.mul_le_mul_right _ hi
  rw [Nat.add_mul, Nat.one_mul] at h1
  have h0 : 0 < sz := by omega
  rw [Sort.get_flatK _ _ _ _ (by omega)]
  have e1 : (i * sz + j) / sz = i := by rw [Nat.mul_comm, Nat.mul_add_div h0, Nat.div_eq_of_lt hj, Nat.add_zero]
  have e2 : (i * sz + j) % sz = j := by rw [Nat.mul_comm, Nat.mul_add_mod, Nat.mod_eq_of_lt hj]
  rw [e1, e2]
/-- An array of rows that begin with a string, sorted by a call that keeps the order of equal ones. -/
theorem stab_rows {w0 : World} {F0 : Fz} {E : En} (hI : Inv P w0 F0 E) {n v t f sz : Nat} {es : Rows} {val fv : Value} (hT : sizeT P t = some sz) (hct : ctsOk P t = true) (hstr : ∀ r : Row, ∃ cs, eta P t r = .str (rStr r 0) :: cs)
    (hg : E.hs.getD n none = some (.arr t v es)) (h : Rep P E val (.aref t n v none (rLen es))) (hlen : es.length < 20)
    (hsort : ∀ (blk cap nn : Nat) (enc : Nat → List Value) (key : Nat → ByteArray) W, 0 < nn → nn < 20 → (∀ x, ∃ cs : List Value, enc x = .string (key x) :: cs ∧ cs.length + 1 = sz) → (∀ x, ∀ v ∈ enc x, v.oneCell' = true) → Sort.HoldsK enc sz W blk 0 (Array.range nn) → blk < W.heap.size →
      Calls P f #[.slice (some ⟨blk, 0, none⟩) nn cap, fv] W fun e w' => e = .returned (.tuple #[]) ∧ ∃ m os, w' = Go.Proofs.sortWorldK enc sz W blk 0 m (Sort.insertionSort (fun x y => sLt (key x) (key y)) (Array.range nn) 0 nn) os)
    (hnone : ∀ p cap w, Calls P f #[.slice p 0 cap, fv] w fun e w' => e = .returned (.tuple #[]) ∧ w' = w) :
    Calls P f #[val, fv] E.w fun e w' => e = .returned (.tuple #[]) ∧ ∃ E' : En, E'.w = w' ∧ Inv P w0 F0 E' ∧ En.Le E E' ∧ E'.hs = E.hs.set n (some (.arr t v (sortC es))) := by
  obtain ⟨a0, c0, hv, g0, g1, g2, v'', es', q1, q2, q3⟩ := rep_aref_inv h
  rw [hg] at q1; injection q1 with q1; injection q1 with q1 q4 q5; subst q4; subst q5
  obtain ⟨a, cap, sz0, k1, k2, k3, k4, k5, k6⟩ := q3 rfl
  rw [hT] at k2; injection k2 with k2; subst k2
  obtain ⟨a', cap', sz', m1, m2, m3, m4, m5, m6⟩ := hI.arr n t v es hg
  rw [k1] at m1; injection m1 with n1 n2 n3 n4; subst n1; subst n3; subst n4
  obtain ⟨e1, e2⟩ := k5 rfl
  subst e1; subst e2
  have hl : (rLen es).toNat = es.length := by simp [rLen]
  rw [hv, hl]
  have hgt : n < E.hs.length := by
    rcases Nat.lt_or_ge n E.hs.length with h | h
    · exact h
    · rw [List.getD_eq_getElem?_getD, List.getElem?_eq_none h] at hg; cases hg
  rcases Nat.eq_zero_or_pos es.length with h0 | h0
  · have hes : es = [] := List.eq_nil_of_length_eq_zero h0
    rw [h0]
    refine (hnone a0 c0 E.w).mono ?_
    rintro e w' ⟨rfl, rfl⟩
    refine ⟨rfl, E, rfl, hI, En.Le.refl _, ?_⟩
    refine List.ext_getElem? fun i => ?_
    rw [List.getElem?_set]
    split
    · rename_i hi
      subst hi
      rw [List.getD_eq_getElem?_getD] at hg
      cases hq : E.hs[n]? with
      | none => rw [hq] at hg; cases hg
      | some x => rw [hq] at hg; simp at hg; rw [hg, hes]; rfl
    · rfl
  · have hcap : 0 < c0 := by omega
    obtain ⟨b, arr, ty, p1, p2, p3, p4, p5, p6⟩ := m6 hcap
    subst p1
    have hsize : es.length * sz ≤ arr.size := Nat.le_trans (Nat.mul_le_mul_right sz m4) p4
    let cl : Nat → Nat := fun x => if x < es.length then x else 0
    have hcl : ∀ x, cl x < es.length := fun x => by
      show (if x < es.length then x else 0) < es.length
      split <;> omega
    have hcl1 : ∀ x, x < es.length → cl x = x := fun x h => if_pos h
    let row : Nat → Row := fun x => es.getD (cl x) []
    have hrow : ∀ x, es[cl x]? = some (row x) := fun x => by
      show es[cl x]? = some (es.getD (cl x) [])
      rw [List.getD_eq_getElem?_getD, List.getElem?_eq_getElem (hcl x)]; rfl
    have hrlen : ∀ x, (row x).length = sz := fun x => (m5 _ _ (hrow x)).1
    let enc : Nat → List Value := fun x => (List.range sz).map fun j => arr.getD (cl x * sz + j) undef
    have hencget : ∀ x j, j < sz → (enc x)[j]! = arr.getD (cl x * sz + j) undef := fun x j hj => by
      show ((List.range sz).map fun j => arr.getD (cl x * sz + j) undef)[j]! = _
      rw [List.getElem!_eq_getElem?_getD, List.getElem?_map, List.getElem?_range hj]; rfl
    have hrep : ∀ x j y, (row x)[j]? = some y → Rep P E (arr.getD (cl x * sz + j) undef) y := fun x j y hy => p6 _ _ _ _ (hrow x) hy
    have henc : ∀ x, ∃ cs : List Value, enc x = .string (rStr (row x) 0) :: cs ∧ cs.length + 1 = sz := fun x => by
      obtain ⟨cs, hcs⟩ := hstr (row x)
      rw [(m5 _ _ (hrow x)).2] at hcs
      have h1 := hrep x 0 (.str (rStr (row x) 0)) (by
        generalize row x = r at hcs
        obtain ⟨s, hs⟩ : ∃ s, s = rStr r 0 := ⟨_, rfl⟩
        rw [← hs] at hcs ⊢
        rw [hcs]; rfl)
      have h2 := rep_str_inv h1
      obtain ⟨s, rfl⟩ : ∃ s, sz = s + 1 := ⟨sz - 1, by omega⟩
      refine ⟨(List.range s).map fun j => arr.getD (cl x * (s + 1) + (j + 1)) undef, ?_, by simp⟩
      show (List.range (s + 1)).map (fun j => arr.getD (cl x * (s + 1) + j) undef) = _
      rw [List.range_succ_eq_map, List.map_cons, h2, List.map_map]; rfl
    have hone : ∀ x, ∀ v ∈ enc x, v.oneCell' = true := fun x v hv => by
      obtain ⟨j, hj, rfl⟩ := List.mem_map.1 hv
      have hj := List.mem_range.1 hj
      have hjr : j < (row x).length := by rw [hrlen]; exact hj
      have h1 := hrep x j _ (List.getElem?_eq_getElem hjr)
      refine etaL_one (r := row x) (ctsOf P t) 0 j _ hct ?_ _ h1
      have h2 := (m5 _ _ (hrow x)).2
      have h3 : (eta P t (row x))[j]? = some (row x)[j] := by rw [h2]; exact List.getElem?_eq_getElem hjr
      exact h3
    have hH : Sort.HoldsK enc sz E.w b 0 (Array.range es.length) := by
      intro q hq
      rw [Sort.size_flatK, Array.size_range] at hq
      refine ⟨?_, frozen_of_row' p3⟩
      rw [Nat.zero_add, cell_of_row _ _ _ arr ty (0, 0) p3]
      have hlt : q < arr.size := by omega
      show arr[q]? = some (id (Sort.flatK enc sz (Array.range es.length))[q]!)
      have hq1 : q / sz < es.length := Nat.div_lt_of_lt_mul (by rw [Nat.mul_comm]; exact hq)
      have hq2 : q % sz < sz := Nat.mod_lt _ m3
      have e : q / sz * sz + q % sz = q := by rw [Nat.mul_comm]; exact Nat.div_add_mod q sz
      have h2 := flat_getK (enc := enc) (sz := sz) (Array.range es.length) (q / sz) (q % sz) (by simpa using hq1) hq2
      rw [e] at h2
      have hr : (Array.range es.length)[q / sz]! = q / sz := by simp [getElem!_def, hq1]
      rw [id, h2, hr, hencget _ _ hq2, hcl1 _ hq1, e]
      simp [Array.getD_eq_getD_getElem?, hlt]
    have hbl : b < E.w.heap.size := (Array.getElem?_eq_some_iff.1 p3).1
    refine (hsort b c0 es.length enc (fun x => rStr (row x) 0) E.w h0 hlen henc hone hH hbl).mono ?_
    rintro e w' ⟨rfl, m, os, hw⟩
    refine ⟨rfl, ?_⟩
    obtain ⟨s1, s2, s3⟩ := ins_sortC (row := row) es.length (fun x y => sLt (rStr (row x) 0) (rStr (row y) 0)) (fun _ _ => rfl)
    generalize Sort.insertionSort (fun x y => sLt (rStr (row x) 0) (rStr (row y) 0)) (Array.range es.length) 0 es.length = d' at hw s1 s2 s3
    have hmap : (List.range es.length).map row = es := by
      refine List.ext_getElem? fun i => ?_
      rw [List.getElem?_map]
      rcases Nat.lt_or_ge i es.length with h | h
      · rw [List.getElem?_range h]
        have := hrow i
        rw [hcl1 i h] at this
        exact this.symm
      · rw [List.getElem?_eq_none (by simpa using h), List.getElem?_eq_none h]; rfl
    rw [hmap] at s3
    rw [← s3]
    let arr' : Array Value := Sort.putCells id 0 (Sort.flatK enc sz d') arr
    have hs' : arr'.size = arr.size := by simp [arr', Sort.putCells]
    have hget' : ∀ i j, i < es.length → j < sz → arr'.getD (i * sz + j) undef = arr.getD (cl d'[i]! * sz + j) undef := by
      intro i j hi hj
      have h1 : (i + 1) * sz ≤ es.length * sz := Nat.mul_le_mul_right _ hi
      rw [Nat.add_mul, Nat.one_mul] at h1
      have hlt : i * sz + j < arr.size := by omega
      have hlt2 : i * sz + j < (Sort.flatK enc sz d').size := by rw [Sort.size_flatK, s1]; omega
      have := flat_getK (enc := enc) d' i j (by omega) hj
      rw [hencget _ _ hj] at this
      simp only [arr', Sort.putCells, Array.getD_eq_getD_getElem?, Array.getElem?_mapIdx, Array.getElem?_eq_getElem hlt, Option.map_some, Nat.zero_le, true_and, Nat.zero_add, hlt2, if_true, Nat.sub_zero, Option.getD_some, id]
      rw [this, Array.getD_eq_getD_getElem?]
    have hlenm : (d'.toList.map row).length = es.length := by simp [s1]
    have hrow' : ∀ (i : Nat) (r : Row), (d'.toList.map row)[i]? = some r → i < es.length ∧ r = row d'[i]! := by
      intro i r hi
      rw [List.getElem?_map, Option.map_eq_some_iff] at hi
      obtain ⟨x, hx, rfl⟩ := hi
      have hil : i < d'.toList.length := by
        rcases Nat.lt_or_ge i d'.toList.length with h | h
        · exact h
        · rw [List.getElem?_eq_none h] at hx; cases hx
      have hyd : d'[i]! = x := by
        have : d'[i]? = some x := by simpa using hx
        simp [getElem!_def, this]
      rw [hyd]
      exact ⟨by simpa [s1] using hil, rfl⟩
    have turn := hI.arrTurn (v' := v) (es' := d'.toList.map row) (arr' := arr') hg k1 hcap p3 (Or.inr ⟨rfl, hlenm⟩) (by rw [hlenm]; exact m4)
      (fun i r hi => by
        obtain ⟨_, rfl⟩ := hrow' i r hi
        exact m5 _ _ (hrow _)) hs'
      (fun i r j x hi hj => by
        obtain ⟨hil, rfl⟩ := hrow' i r hi
        have hjs : j < sz := by
          rcases Nat.lt_or_ge j (row d'[i]!).length with h | h
          · rw [hrlen] at h; exact h
          · rw [List.getElem?_eq_none h] at hj; cases hj
        rw [hget' i j hil hjs]
        exact hrep _ _ _ hj)
    obtain ⟨t1, t2⟩ := turn
    have hbelow : RowKit.Below (E.w.setRow b arr').heap.size (E.w.setRow b arr') w' := by
      rw [hw]
      unfold Go.Proofs.sortWorldK Sort.putRowK
      refine ⟨rfl, rfl, rfl, ?_, fun k hk => ?_⟩
      · show (E.w.setRow b arr').heap.size ≤ ((Sort.putRow id (Sort.ahead E.w m) b 0 (Sort.flatK enc sz d')).heap ++ os).size
        rw [setRow_size, Array.size_append]
        have : (Sort.putRow id (Sort.ahead E.w m) b 0 (Sort.flatK enc sz d')).heap.size = E.w.heap.size := by simp [Sort.putRow, Sort.mapBlock, Sort.ahead]
        omega
      · rw [setRow_size] at hk
        show ((Sort.putRow id (Sort.ahead E.w m) b 0 (Sort.flatK enc sz d')).heap ++ os)[k]? = _
        rw [Array.getElem?_append, if_pos (by simpa [Sort.putRow, Sort.mapBlock, Sort.ahead] using hk)]
        show (E.w.heap.modify b (Sort.onCells (Sort.putCells id 0 (Sort.flatK enc sz d'))))[k]? = _
        rw [Array.getElem?_modify]
        by_cases hkb : b = k
        · subst hkb
          rw [if_pos rfl, p3, setRow_heap _ _ _ _ _ _ p3]
          rfl
        · rw [if_neg hkb, setRow_other _ _ _ _ (Ne.symm hkb)]
    obtain ⟨u1, u2⟩ := t1.grow (F' := E.F) hbelow (fun _ _ h => h) (fun _ _ h => Or.inl h) (fun b o h => Nat.lt_of_lt_of_le (t1.Flt b o h) hbelow.size)
    exact ⟨_, rfl, u1, t2.trans u2, rfl⟩
theorem rep_fn_nil {E : En} {v : Value} {g : Nat} (h : Rep P E v (.fn g [])) : v = .func (.func g) #[] #[] := by
  cases h with
  | fn f cs xs hl h =>
    have : cs = #[] := Array.eq_empty_of_size_eq_zero (by simpa using hl)
    subst this; rfl
/-- A function that is lent such an array and sorts it. -/
theorem stab_okM {f g t sz : Nat} {pts : List PT} (hb : ∃ fn, P.funcs[f]? = some fn ∧ (fn.name == "runtime.NumGoroutine") = false ∧ fn.body.isSome = true) (hpts : pts = [.fn g []]) (hT : sizeT P t = some sz) (hct : ctsOk P t = true) (hstr : ∀ r : Row, ∃ cs, eta P t r = .str (rStr r 0) :: cs)
    (hsort : ∀ (blk cap nn : Nat) (enc : Nat → List Value) (key : Nat → ByteArray) W, 0 < nn → nn < 20 → (∀ x, ∃ cs : List Value, enc x = .string (key x) :: cs ∧ cs.length + 1 = sz) → (∀ x, ∀ v ∈ enc x, v.oneCell' = true) → Sort.HoldsK enc sz W blk 0 (Array.range nn) → blk < W.heap.size →
      Calls P f #[.slice (some ⟨blk, 0, none⟩) nn cap, .func (.func g) #[] #[]] W fun e w' => e = .returned (.tuple #[]) ∧ ∃ m os, w' = Go.Proofs.sortWorldK enc sz W blk 0 m (Sort.insertionSort (fun x y => sLt (key x) (key y)) (Array.range nn) 0 nn) os)
    (hnone : ∀ p cap w, Calls P f #[.slice p 0 cap, .func (.func g) #[] #[]] w fun e w' => e = .returned (.tuple #[]) ∧ w' = w) :
    FunOkM P f (mkFunU t pts (fun es_ as_ => (.test (iLt (rLen es_) 20) (.ret (sortC es_, rLen es_)) .fail : T (Rows × Int)))) := by
  subst hpts
  refine ⟨hb, fun w Fz Mm l es hes hI args v0 xs ys0 r hsz hn hrep0 hrep hr => ?_⟩
  have hr' : ((T.test (iLt (rLen es) 20) (.ret (sortC es, rLen es)) .fail : T (Rows × Int)).eval.bind fun r => (T.ret r : T (Rows × Int)).eval) = some r := hr
  rw [Option.bind_eq_some_iff] at hr'
  obtain ⟨q, q1, q2⟩ := hr'
  simp [T.eval] at q2
  subst q2
  obtain ⟨hlt, q1⟩ := T.test_eval q1
  simp [T.eval] at q1
  subst q1
  have hlt : es.length < 20 := by
    have : rLen es < 20 := of_decide_eq_true hlt
    unfold rLen at this
    omega
  obtain ⟨h1, h2⟩ := normAs_get hn
  match ys0, h1 with
  | [y], _ =>
    obtain ⟨x, hx⟩ := h2 0 (.fn g []) y rfl rfl
    have hy : y = .fn g [] := by
      unfold normP at hx
      simp only [] at hx
      split at hx
      · rename_i g' xs'
        rw [cond_eq_ite] at hx
        split at hx
        · rw [Option.map_eq_some_iff] at hx
          obtain ⟨ys, hys, rfl⟩ := hx
          cases xs' with
          | nil => simp [normCs] at hys; subst hys; rfl
          | cons => simp [normCs] at hys
        · cases hx
      · cases hx
    subst hy
    match args, hsz with
    | [fv], _ =>
      have hfv : fv = .func (.func g) #[] #[] := by
        have h3 : Rep P (E0 w Fz) fv (.fn g []) := hrep 0 _ rfl
        exact rep_fn_nil h3
      subst hfv
      have hI' : Inv P w ⟨Fz, Mm⟩ ⟨w, Fz, fun _ => l, [some (.arr t 0 es)]⟩ := hI
      have hrep0' : Rep P ⟨w, Fz, fun _ => l, [some (.arr t 0 es)]⟩ v0 (.aref t 0 0 none (rLen es)) := hrep0 rfl
      show Calls P f #[v0, .func (.func g) #[] #[]] w _
      refine (stab_rows hI' hT hct hstr (n := 0) rfl hrep0' hlt hsort hnone).mono ?_
      rintro e w' ⟨rfl, E', rfl, k1, k2, k3⟩
      have hg' : E'.hs.getD 0 none = some (.arr t 0 (sortC es)) := by rw [k3]; rfl
      obtain ⟨v', es', c1, c2, c3⟩ := k2.arr 0 t 0 es rfl
      rw [hg'] at c1; injection c1 with c1; injection c1 with c1 c4 c5; subst c4; subst c5
      obtain ⟨o1, _⟩ := k1.only hg'
      refine ⟨_, E'.F, E'.N 0, 0, rfl, o1, rfl, (c3 rfl).2, (c3 rfl).1⟩
end Go.Proofs.YtolackmpfnndhaaGreatDoor.Ev
