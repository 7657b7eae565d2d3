/- Literals of slices; append. Conditions: stated at each. -/
import Derived.Test.YtolackmpfnndhaaGreatDoorSnd3
namespace Go.Proofs.YtolackmpfnndhaaGreatDoor.Ev
open Go Go.RowKit
set_option linter.unusedVariables false
set_option linter.unusedSimpArgs false
variable {P : Program}
/-- Rows laid side by side. -/
def Laid (P : Program) (E : En) (t sz : Nat) (vs : Nat → Value) (rows : Rows) : Prop :=
  ∀ (i : Nat) (r : Row), rows[i]? = some r → r.length = sz ∧ eta P t r = r ∧ ∀ (j : Nat) (x : V), r[j]? = some x → Rep P E (vs (i * sz + j)) x
theorem rowsOf_run {E : En} {t sz : Nat} (hsz : (ctsOf P t).length = sz) {f : Operand → Value} {g : Operand → V} (hf : ∀ x, Rep P E (f x) (g x)) :
    ∀ {parts : List (Nat × Operand)} {arr : Array Value} {rows out : Rows}, arr.size = rows.length * sz → Laid P E t sz (fun k => arr.getD k undef) rows →
      rowsOf P t (parts.map fun p => (p.1, g p.2)) rows = some out →
      ∃ arr', Instr.fill (fun i => some (i * sz, sz)) arr (parts.map fun p => (p.1, f p.2)) = some arr' ∧ arr'.size = arr.size ∧ out.length = rows.length ∧ Laid P E t sz (fun k => arr'.getD k undef) out
  | [], arr, rows, out, hs, hl, h => by
    simp [rowsOf] at h; subst h
    exact ⟨arr, by simp [Instr.fill], rfl, rfl, hl⟩
  | (i, x) :: parts, arr, rows, out, hs, hl, h => by
    simp only [List.map_cons, rowsOf] at h
    rw [Option.bind_eq_some_iff] at h
    obtain ⟨r, hr, h⟩ := h
    rw [Option.bind_eq_some_iff] at hr
    obtain ⟨c, hc, hr⟩ := hr
    rw [cond_eq_ite] at h
    split at h
    · rename_i hb
      have hi : i < rows.length := by simpa [Nat.blt_eq] using hb
      obtain ⟨c1, c2⟩ := rep_cells (hf x) hc
      obtain ⟨n1, n2, n3, n4⟩ := normL_spec (P := P) (E := E) hr
      have n5 := normL_eta hr
      have hcsz : (f x).cells.size = sz := by rw [c1, n2, hsz]
      obtain ⟨m1, m2⟩ := fold_get (i * sz) (f x).cells arr
      have hbound : i * sz + sz ≤ arr.size := by
        rw [hs]
        have : (i + 1) * sz ≤ rows.length * sz := Nat.mul_le_mul_right _ hi
        rw [Nat.add_mul] at this; omega
      obtain ⟨arr', a1, a2, a3, a4⟩ := rowsOf_run hsz hf (parts := parts) (arr := (f x).cells.zipIdx.foldl (fun (cs : Array Value) (p : Value × Nat) => cs.setIfInBounds (i * sz + p.2) p.1) arr) (rows := rows.set i r)
        (by rw [m1, hs]; simp) (by
          intro k q hq
          rw [List.getElem?_set] at hq
          split at hq
          · rename_i hk; subst hk
            injection hq with hq; subst hq
            refine ⟨by rw [n1, hsz], n5.1, fun j y hj => ?_⟩
            have hj' : j < sz := by
              rcases Nat.lt_or_ge j r.length with h | h
              · rw [n1, hsz] at h; exact h
              · rw [List.getElem?_eq_none h] at hj; cases hj
            have e : (((f x).cells.zipIdx.foldl (fun (cs : Array Value) (p : Value × Nat) => cs.setIfInBounds (i * sz + p.2) p.1) arr)).getD (i * sz + j) undef = (f x).cells.getD j undef := by
              rw [Array.getD_eq_getD_getElem?, m2, if_pos ⟨by omega, by omega, by omega⟩, Array.getD_eq_getD_getElem?]
              congr 2
              omega
            show Rep P E ((((f x).cells.zipIdx.foldl (fun (cs : Array Value) (p : Value × Nat) => cs.setIfInBounds (i * sz + p.2) p.1) arr)).getD (i * sz + j) undef) y
            rw [e]
            exact n4 (fun k => (f x).cells.getD k undef) c2 j y hj
          · rename_i hk
            obtain ⟨l1, l2, l3⟩ := hl k q hq
            refine ⟨l1, l2, fun j y hj => ?_⟩
            have hj' : j < sz := by
              rcases Nat.lt_or_ge j q.length with h | h
              · rw [l1] at h; exact h
              · rw [List.getElem?_eq_none h] at hj; cases hj
            have hout : ¬ (i * sz ≤ k * sz + j ∧ k * sz + j < i * sz + sz) := by
              intro hh
              rcases Nat.lt_or_gt_of_ne hk with h | h
              · have : (i + 1) * sz ≤ k * sz := Nat.mul_le_mul_right _ h
                rw [Nat.add_mul] at this; omega
              · have : (k + 1) * sz ≤ i * sz := Nat.mul_le_mul_right _ h
                rw [Nat.add_mul] at this; omega
            have e : (((f x).cells.zipIdx.foldl (fun (cs : Array Value) (p : Value × Nat) => cs.setIfInBounds (i * sz + p.2) p.1) arr)).getD (k * sz + j) undef = arr.getD (k * sz + j) undef := by
              rw [Array.getD_eq_getD_getElem?, m2, if_neg (by rw [hcsz]; intro hh; exact hout ⟨hh.1, hh.2.1⟩), Array.getD_eq_getD_getElem?]
            show Rep P E ((((f x).cells.zipIdx.foldl (fun (cs : Array Value) (p : Value × Nat) => cs.setIfInBounds (i * sz + p.2) p.1) arr)).getD (k * sz + j) undef) y
            rw [e]
            exact l3 j y hj) h
      refine ⟨arr', ?_, by rw [a2, m1], by rw [a3]; simp, a4⟩
      simp only [List.map_cons, Instr.fill]
      rw [if_neg]
      · exact a1
      · simp only [Bool.or_eq_true, decide_eq_true_eq, not_or]
        omega
    · cases h
theorem elemT_spec {t e : Nat} (h : elemT P t = some e) : P.underlying t = some (.slice e) := by
  unfold elemT at h
  split at h
  · rename_i e' hu; injection h with h; subst h; exact hu
  · cases h
/-- A new row of cells that stay. -/
theorem rep_newRow {w0 : World} {F0 : Fz} {E : En} (hI : Inv P w0 F0 E) {t sz : Nat} {arr : Array Value} {rows : Rows} (hsz : sizeT P t = some sz) (hp : 0 < sz) (hs : rows.length * sz ≤ arr.size) (cap : Nat) (hcap : rows.length ≤ cap)
    (hl : Laid P E t sz (fun k => arr.getD k undef) rows) :
    let E' : En := ⟨E.w.alloc (.cells arr t), fun b o => E.F b o ∨ (b = E.w.heap.size ∧ o < rows.length * sz), E.N, E.hs⟩
    Inv P w0 F0 E' ∧ En.Le E E' ∧ ∀ k, KOk E' (some ⟨E.w.heap.size, 0, none⟩) rows.length cap sz k → Rep P E' (.slice (some ⟨E.w.heap.size, 0, none⟩) rows.length cap) (.slice t rows k) := by
  intro E'
  obtain ⟨i1, i2⟩ := hI.grow (w' := E.w.alloc (.cells arr t)) (F' := fun b o => E.F b o ∨ (b = E.w.heap.size ∧ o < rows.length * sz)) (Below.refl _ _ |>.alloc (Nat.le_refl _) _) (fun b o h => Or.inl h) (fun b o h => by rcases h with h | h; exact Or.inl h; exact Or.inr (by omega))
    (fun b o h => by
      have : (E.w.alloc (.cells arr t)).heap.size = E.w.heap.size + 1 := by simp
      rcases h with h | h
      · have := hI.Flt b o h; omega
      · omega)
  refine ⟨i1, i2, fun k hk => ?_⟩
  refine .slice t rows k _ cap sz (fun k => arr.getD k undef) hcap (fun h => by cases h) hsz (fun i r hi => ⟨(hl i r hi).1, (hl i r hi).2.1⟩) (fun i r j x hi hj A hA => ?_) (fun i r j x hi hj => ((hl i r hi).2.2 j x hj).mono i2) hk
  injection hA with hA; subst hA
  obtain ⟨l1, l2, l3⟩ := hl i r hi
  have hj' : j < sz := by
    rcases Nat.lt_or_ge j r.length with h | h
    · rw [l1] at h; exact h
    · rw [List.getElem?_eq_none h] at hj; cases hj
  have hi' : i < rows.length := by
    rcases Nat.lt_or_ge i rows.length with h | h
    · exact h
    · rw [List.getElem?_eq_none h] at hi; cases hi
  have hb : i * sz + j < rows.length * sz := by
    have : (i + 1) * sz ≤ rows.length * sz := Nat.mul_le_mul_right _ hi'
    rw [Nat.add_mul] at this; omega
  have e : Addr.add ⟨E.w.heap.size, 0, none⟩ (i * sz + j) = ⟨E.w.heap.size, i * sz + j, none⟩ := by unfold Addr.add; split <;> simp_all
  refine ⟨?_, Or.inr ⟨rfl, by simpa using hb⟩⟩
  rw [e]
  show (E.w.alloc (.cells arr t)).cell? _ = _
  rw [cell_of_row _ _ _ arr t (0, 0) (alloc_new E.w _)]
  have : i * sz + j < arr.size := by omega
  simp [Array.getD_eq_getD_getElem?, this]
theorem buildSlice_arr {w0 : World} {F0 : Fz} {E : En} (hI : Inv P w0 F0 E) {t el sz len : Nat} {z : List V} {f : Operand → Value} {g : Operand → V} (hf : ∀ x, Rep P E (f x) (g x)) {parts : Array (Nat × Operand)} {rows : Rows}
    (he : elemT P t = some el) (hs : sizeT P el = some sz) (hz : (zeroV P el).bind (normL P (ctsOf P el)) = some z) (hb : len * sz ≤ 4096) (hp : 0 < sz) (hc : (ctsOf P el).length = sz)
    (hr : rowsOf P el (parts.toList.map fun p => (p.1, g p.2)) (List.replicate len z) = some rows) :
    ∃ arr : Array Value, (Instr.buildSlice t len (parts.map fun p => (p.1, f p.2))).run P E.w = .ok (.slice (some ⟨E.w.heap.size, 0, none⟩) rows.length rows.length) (E.w.alloc (.cells arr el)) ∧ arr.size = len * sz ∧ rows.length = len ∧ Laid P E el sz (fun k => arr.getD k undef) rows := by
  rw [Option.bind_eq_some_iff] at hz
  obtain ⟨zc, hzc, hz⟩ := hz
  obtain ⟨i, zv, hi, hzv, rfl⟩ := zeroV_info hzc
  obtain ⟨z1, z2⟩ := rep_zero (P := P) (E := E) zv
  obtain ⟨n1, n2, n3, n4⟩ := normL_spec (P := P) (E := E) hz
  have n5 := normL_eta hz
  obtain ⟨i', hi', hs'⟩ := sizeT_info hs
  rw [hi] at hi'; injection hi' with hi'; subst hi'
  have hzs : zv.cells.size = sz := by rw [z1, n2, hc]
  have hu := elemT_spec he
  let arr0 : Array Value := (Array.range (len * sz)).map (zv.cells[· % zv.cells.size]!)
  have ha0 : arr0.size = len * sz := by simp [arr0]
  have hlaid : Laid P E el sz (fun k => arr0.getD k undef) (List.replicate len z) := by
    intro k q hq
    rw [List.getElem?_replicate] at hq
    split at hq
    · rename_i hk
      injection hq with hq; subst hq
      refine ⟨by rw [n1, hc], n5.1, fun j y hj => ?_⟩
      have hj' : j < sz := by
        rcases Nat.lt_or_ge j z.length with h | h
        · rw [n1, hc] at h; exact h
        · rw [List.getElem?_eq_none h] at hj; cases hj
      have hkb : k * sz + j < len * sz := by
        have : (k + 1) * sz ≤ len * sz := Nat.mul_le_mul_right _ hk
        rw [Nat.add_mul] at this; omega
      have e : arr0.getD (k * sz + j) undef = zv.cells.getD j undef := by
        have hm : (k * sz + j) % sz = j := by rw [Nat.add_comm, Nat.add_mul_mod_self_right, Nat.mod_eq_of_lt hj']
        simp only [arr0]
        rw [Array.getD_eq_getD_getElem?, Array.getElem?_map, Array.getElem?_range, if_pos hkb]
        simp only [Option.map_some, Option.getD_some]
        rw [hzs, hm]
        have : j < zv.cells.size := by omega
        simp [Array.getD_eq_getD_getElem?, this, getElem!_pos]
      show Rep P E (arr0.getD (k * sz + j) undef) y
      rw [e]
      exact n4 (fun k => zv.cells.getD k undef) z2 j y hj
    · cases hq
  obtain ⟨arr, a1, a2, a3, a4⟩ := rowsOf_run hc hf (parts := parts.toList) (arr := arr0) (rows := List.replicate len z) (by rw [ha0]; simp) hlaid hr
  have hrl : rows.length = len := by rw [a3]; simp
  refine ⟨arr, ?_, by rw [a2, ha0], hrl, a4⟩
  have e1 : ¬ (2 ^ 24 < len * sz) := by have : (4096 : Nat) < 2 ^ 24 := by decide
                                        omega
  have e2 : (parts.map fun p => (p.1, f p.2)).toList = parts.toList.map fun p => (p.1, f p.2) := by simp
  have e4 : (sizeOf el).run P E.w = .ok sz E.w := by simp [sizeOf, typeInfo, hi, hs']
  have e5 : (zeroValue el).run P E.w = .ok zv E.w := by simp [zeroValue, typeInfo, hi, hzv]
  unfold Instr.buildSlice
  simp only [Sem.run_bind, run_underlying_ hu, Result.andThen_ok, e4]
  rw [if_neg e1]
  by_cases h0 : len * sz = 0
  · have hl0 : len = 0 := by
      rcases Nat.eq_zero_or_pos len with h | h
      · exact h
      · have := Nat.mul_pos h hp; omega
    have ea : (Array.range (len * sz)).map (fun (k : Nat) => (#[] : Array Value)[k % (#[] : Array Value).size]!) = arr0 := by
      apply Array.ext
      · simp [arr0]
      · intro k h1 h2; simp [h0] at h1
    simp only [h0, if_true, Sem.run_pure, Result.andThen_ok, Sem.run_bind]
    rw [h0] at ea
    rw [e2, ea, a1]
    simp [newRow, hrl]
  · rw [if_neg h0]
    simp only [Sem.run_bind, e5, Result.andThen_ok, Sem.run_pure]
    have ea : (Array.range (len * sz)).map (fun (k : Nat) => zv.cells[k % zv.cells.size]!) = arr0 := rfl
    rw [e2, ea, a1]
    simp [newRow, hrl]
theorem buildSlice_run {w0 : World} {F0 : Fz} {E : En} (hI : Inv P w0 F0 E) {t el sz len : Nat} {z : List V} {f : Operand → Value} {g : Operand → V} (hf : ∀ x, Rep P E (f x) (g x)) {parts : Array (Nat × Operand)} {rows : Rows}
    (he : elemT P t = some el) (hs : sizeT P el = some sz) (hz : (zeroV P el).bind (normL P (ctsOf P el)) = some z) (hb : len * sz ≤ 4096) (hp : 0 < sz) (hc : (ctsOf P el).length = sz)
    (hr : rowsOf P el (parts.toList.map fun p => (p.1, g p.2)) (List.replicate len z) = some rows) :
    ∃ v E', (Instr.buildSlice t len (parts.map fun p => (p.1, f p.2))).run P E.w = .ok v E'.w ∧ Inv P w0 F0 E' ∧ En.Le E E' ∧ E'.hs = E.hs ∧ Rep P E' v (.slice el rows .full) := by
  obtain ⟨arr, g1, g2, g3, g4⟩ := buildSlice_arr hI hf he hs hz hb hp hc hr
  obtain ⟨j1, j2, j3⟩ := rep_newRow hI hs hp (arr := arr) (rows := rows) (by rw [g2, g3]; exact Nat.le_refl _) rows.length (Nat.le_refl _) g4
  exact ⟨_, _, g1, j1, j2, rfl, j3 .full rfl⟩
theorem flat_get {sz : Nat} (hp : 0 < sz) : ∀ {rows : Rows}, (∀ (i : Nat) (r : Row), rows[i]? = some r → r.length = sz) → rows.flatten.length = rows.length * sz ∧ ∀ (k : Nat) (y : V), rows.flatten[k]? = some y → ∃ r, rows[k / sz]? = some r ∧ r[k % sz]? = some y
  | [], _ => ⟨by simp, fun k y h => by simp at h⟩
  | r :: l, h => by
    have hr := h 0 r rfl
    obtain ⟨h1, h2⟩ := flat_get hp (rows := l) (fun i q hq => h (i + 1) q (by simpa using hq))
    refine ⟨by rw [List.flatten_cons, List.length_append, h1, hr, List.length_cons, Nat.add_mul]; omega, fun k y hk => ?_⟩
    rw [List.flatten_cons, List.getElem?_append] at hk
    split at hk
    · rename_i hlt
      rw [hr] at hlt
      exact ⟨r, by rw [Nat.div_eq_of_lt hlt]; rfl, by rw [Nat.mod_eq_of_lt hlt]; exact hk⟩
    · rename_i hge
      rw [hr] at hge hk
      obtain ⟨q, q1, q2⟩ := h2 _ y hk
      have hle : sz ≤ k := by omega
      refine ⟨q, ?_, ?_⟩
      · rw [Nat.div_eq_sub_div hp hle]; simpa using q1
      · rw [Nat.mod_eq_sub_mod hle]; exact q2
end Go.Proofs.YtolackmpfnndhaaGreatDoor.Ev
