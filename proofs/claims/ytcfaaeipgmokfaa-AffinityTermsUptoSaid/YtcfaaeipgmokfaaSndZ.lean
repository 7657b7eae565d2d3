/- A slice that was written into becomes one that stays. Conditions: stated at each. -/
import Derived.Test.YtcfaaeipgmokfaaSnd9
namespace Go.Proofs.Ytcfaaeipgmokfaa.Ev
open Go Go.RowKit
set_option linter.unusedVariables false
set_option linter.unusedSimpArgs false
variable {P : Program}
theorem normL_frz : ∀ {ts : List Nat} {xs ys : List V}, normL P ts xs = some ys → ∀ (j : Nat) (y : V), ys[j]? = some y → Frz y
  | [], [], ys, h, j, y, hj => by simp [normL] at h; subst h; simp at hj
  | t :: ts, x :: xs, ys, h, j, y, hj => by
    simp only [normL] at h
    rw [Option.bind_eq_some_iff] at h
    obtain ⟨z, hz, h⟩ := h
    rw [Option.map_eq_some_iff] at h
    obtain ⟨zs, hzs, rfl⟩ := h
    cases j with
    | zero => simp at hj; subst hj; exact norm1_frz hz
    | succ j => exact normL_frz hzs j y (by simpa using hj)
  | [], _ :: _, ys, h, _, _, _ => by simp [normL] at h
  | _ :: _, [], ys, h, _, _, _ => by simp [normL] at h
theorem chunkV_laid {E : En} {el sz : Nat} (hc : (ctsOf P el).length = sz) : ∀ {n : Nat} {cs : List V} {rows : Rows} {vs : Nat → Value}, chunkV P el sz n cs = some rows → (∀ (j : Nat) (y : V), cs[j]? = some y → Rep P E (vs j) y) →
    rows.length = n ∧ cs.length = n * sz ∧ ∀ (i : Nat) (r : Row), rows[i]? = some r → r.length = sz ∧ eta P el r = r ∧ ∀ (j : Nat) (y : V), r[j]? = some y → Rep P E (vs (i * sz + j)) y ∧ Frz y
  | 0, [], rows, vs, h, _ => by simp [chunkV] at h; subst h; exact ⟨rfl, by simp, fun i r hi => by simp at hi⟩
  | 0, _ :: _, rows, vs, h, _ => by simp [chunkV] at h
  | n + 1, cs, rows, vs, h, hx => by
    unfold chunkV at h
    rw [Option.bind_eq_some_iff] at h
    obtain ⟨r, hr, h⟩ := h
    rw [Option.map_eq_some_iff] at h
    obtain ⟨l, hl, rfl⟩ := h
    obtain ⟨n1, n2, n3, n4⟩ := normL_spec (P := P) (E := E) hr
    have n5 := normL_eta hr
    have n6 := normL_frz hr
    rw [List.length_take, hc] at n2
    obtain ⟨k1, k2, k3⟩ := chunkV_laid hc (vs := fun j => vs (sz + j)) hl (fun j y hj => hx (sz + j) y (by rw [List.getElem?_drop] at hj; exact hj))
    rw [List.length_drop] at k2
    refine ⟨by simp [k1], by rw [Nat.add_mul]; omega, fun i q hq => ?_⟩
    cases i with
    | zero =>
      simp at hq; subst hq
      refine ⟨by rw [n1, hc], n5.1, fun j y hj => ⟨?_, n6 j y hj⟩⟩
      rw [Nat.zero_mul, Nat.zero_add]
      refine n4 (fun j => vs j) (fun j y hj => ?_) j y hj
      rw [List.getElem?_take] at hj
      split at hj
      · exact hx j y hj
      · cases hj
    | succ i =>
      obtain ⟨q1, q2, q3⟩ := k3 i q (by simpa using hq)
      refine ⟨q1, q2, fun j y hj => ?_⟩
      have := q3 j y hj
      have e : (i + 1) * sz + j = sz + (i * sz + j) := by rw [Nat.add_mul]; omega
      rw [e]; exact this
/-- The memory after the slot n has become a row that stays. -/
def frzE (P : Program) (n b : Nat) (E : En) : En := ⟨E.w, fun b' o => E.F b' o ∨ b' = b, E.N, (E.hs.map (frzB P E.hs n)).set n none⟩
theorem frz_get (E : En) (n b m : Nat) : (frzE P n b E).hs.getD m none = if m = n then none else frzB P E.hs n (E.hs.getD m none) := by
  show ((E.hs.map (frzB P E.hs n)).set n none).getD m none = _
  rw [getD_set_blk]
  by_cases h : m = n
  · subst h
    by_cases h2 : m < (E.hs.map (frzB P E.hs m)).length
    · rw [if_pos ⟨rfl, h2⟩, if_pos rfl]
    · rw [if_neg (fun e => h2 e.2), if_pos rfl, List.getD_eq_getElem?_getD, List.getElem?_eq_none (by omega)]; rfl
  · rw [if_neg (fun e => h e.1), if_neg h, List.getD_eq_getElem?_getD, List.getD_eq_getElem?_getD, List.getElem?_map]
    cases hq : E.hs[m]? with
    | none => rfl
    | some x => rfl
theorem frz_box {E : En} {n b m : Nat} (h : m ≠ n) {cs : List V} (hm : E.hs.getD m none = some (.box cs)) : (frzE P n b E).hs.getD m none = some (.box (cs.map (frz1 P E.hs n))) := by
  rw [frz_get, if_neg h, hm]; rfl
theorem frz_inv {E : En} {n b m : Nat} {x : Blk} (h : (frzE P n b E).hs.getD m none = some x) : m ≠ n ∧ ∃ cs, E.hs.getD m none = some (.box cs) ∧ x = .box (cs.map (frz1 P E.hs n)) := by
  rw [frz_get] at h
  split at h
  · cases h
  · rename_i hne
    refine ⟨hne, ?_⟩
    unfold frzB at h
    split at h
    · rename_i cs hcs; injection h with h; exact ⟨cs, hcs, h.symm⟩
    · cases h
theorem frz_le {E : En} {n b : Nat} : En.Le (E0 E.w E.F) (frzE P n b E) := ⟨fun _ _ => rfl, fun _ _ h => Or.inl h, fun n cs h => by simp [E0] at h, fun n v h => by simp [E0] at h⟩
theorem rep_open {E : En} {v : Value} {t : Nat} {es : Rows} {k : K} (h : Rep P E v (.slice t es k)) : Rep P E v (.slice t es .open) := by
  cases h with
  | slice t es k a cap sz vs hcap hnone hsz hrow hc hx hk => exact .slice t es .open a cap sz vs hcap hnone hsz hrow hc hx trivial
theorem frz0_rep {w0 : World} {F0 : Nat → Nat → Prop} {E : En} (hI : Inv P w0 F0 E) {n b : Nat} {cs : List V} (hn : E.hs.getD n none = some (.box cs)) (hb : E.N n = .blk b) {v : Value} {x : V} (h : Rep P E v x) : Rep P (frzE P n b E) v (frz0 P E.hs n x) := by
  have keep : ∀ {v : Value} {x : V}, Rep P E v x → Frz x → Rep P (frzE P n b E) v x := fun h hf => (h.frozen hf).mono frz_le
  cases x with
  | bool b => rw [rep_bool_inv h]; exact .bool b
  | int k m => rw [rep_int_inv h]; exact .int k m
  | str s => rw [rep_str_inv h]; exact .str s
  | nils => rw [rep_nils_inv h]; exact .nils
  | fn f c =>
    cases c with
    | nil => cases h; exact .fn f
    | cons a l => cases h
  | slice t es k => exact keep (rep_open h) trivial
  | optr m off =>
    obtain ⟨b', hv, hN, cs', hcs'⟩ := rep_optr_inv h
    show Rep P _ v (bif Nat.beq m n then .dead else .optr m off)
    rw [cond_eq_ite]
    split
    · exact .dead v
    · rename_i hne
      have hne : m ≠ n := fun e => hne (by rw [e]; exact Nat.beq_refl n)
      rw [hv]; exact .optr m off b' hN ⟨_, frz_box hne hcs'⟩
  | sref t m len =>
    obtain ⟨b', hv, hN, cs', hcs'⟩ := rep_sref_inv h
    unfold frz0
    simp only []
    rw [cond_eq_ite]
    split
    · rename_i he
      have he := Nat.eq_of_beq_eq_true he
      subst he
      split
      · rename_i rows hr
        rw [Option.bind_eq_some_iff] at hr
        obtain ⟨sz, hsz, hr⟩ := hr
        rw [Option.bind_eq_some_iff] at hr
        obtain ⟨c2, hc2, hr⟩ := hr
        rw [cond_eq_ite] at hr
        split at hr
        · rename_i hl
          have hl := Nat.eq_of_beq_eq_true hl
          have := getB_box hc2
          rw [hn] at this; injection this with this; injection this with this; subst this
          obtain ⟨b2, arr, t2, g1, g2, g3, g4, g5, g6⟩ := hI.box m cs hn
          rw [hb] at hN; injection hN with hN; subst hN
          rw [hb] at g1; injection g1 with g1; subst g1
          obtain ⟨k1, k2, k3⟩ := chunkV_laid hl (vs := fun j => arr.getD j undef) hr g5
          rw [hv, ← k1]
          refine .slice t rows .open (some ⟨b, 0, none⟩) rows.length sz (fun j => arr.getD j undef) (Nat.le_refl _) (fun e => by cases e) hsz (fun i r hi => ⟨(k3 i r hi).1, (k3 i r hi).2.1⟩) (fun i r j y hi hj A hA => ?_) (fun i r j y hi hj => ?_) trivial
          · injection hA with hA; subst hA
            have e : Addr.add ⟨b, 0, none⟩ (i * sz + j) = ⟨b, i * sz + j, none⟩ := by unfold Addr.add; split <;> simp_all
            rw [e]
            refine ⟨?_, Or.inr rfl⟩
            show E.w.cell? _ = _
            rw [cell_of_row _ _ _ arr t2 (0, 0) g3]
            obtain ⟨l1, _, _⟩ := k3 i r hi
            have hj' : j < sz := by
              rcases Nat.lt_or_ge j r.length with h | h
              · rw [l1] at h; exact h
              · rw [List.getElem?_eq_none h] at hj; cases hj
            have hi' : i < rows.length := by
              rcases Nat.lt_or_ge i rows.length with h | h
              · exact h
              · rw [List.getElem?_eq_none h] at hi; cases hi
            have hbnd : i * sz + j < arr.size := by
              have : (i + 1) * sz ≤ rows.length * sz := Nat.mul_le_mul_right _ hi'
              rw [Nat.add_mul] at this
              rw [g4, k2, ← k1]; omega
            simp [Array.getD_eq_getD_getElem?, hbnd]
          · obtain ⟨r1, r2⟩ := (k3 i r hi).2.2 j y hj
            exact keep r1 r2
        · cases hr
      · exact .dead v
    · rename_i hne
      have hne : m ≠ n := fun e => hne (by rw [e]; exact Nat.beq_refl n)
      rw [hv]; exact .sref t m len b' hN ⟨_, frz_box hne hcs'⟩
  | dead => exact .dead v
  | agg _ => exact .dead v
  | tuple _ => exact .dead v
  | rptr _ => exact .dead v
  | when _ _ _ => exact .dead v
theorem frz1_rep {w0 : World} {F0 : Nat → Nat → Prop} {E : En} (hI : Inv P w0 F0 E) {n b : Nat} {cs : List V} (hn : E.hs.getD n none = some (.box cs)) (hb : E.N n = .blk b) {v : Value} {x : V} (h : Rep P E v x) : Rep P (frzE P n b E) v (frz1 P E.hs n x) := by
  cases x with
  | agg xs =>
    cases h with
    | agg ar xs hl hx =>
      refine .agg ar _ (by rw [hl]; simp) (fun i y hi => ?_)
      rw [List.getElem?_map, Option.map_eq_some_iff] at hi
      obtain ⟨z, hz, rfl⟩ := hi
      exact frz0_rep hI hn hb (hx i z hz)
  | _ => exact frz0_rep hI hn hb h
theorem Inv.frz {w0 : World} {F0 : Nat → Nat → Prop} {E : En} (hI : Inv P w0 F0 E) {n b : Nat} {cs : List V} (hn : E.hs.getD n none = some (.box cs)) (hb : E.N n = .blk b) : Inv P w0 F0 (frzE P n b E) := by
  obtain ⟨b2, arr, t2, g1, g2, g3, g4, g5, g6⟩ := hI.box n cs hn
  rw [hb] at g1; injection g1 with g1; subst g1
  have hlt : b < E.w.heap.size := (Array.getElem?_eq_some_iff.1 g3).1
  refine ⟨hI.below, fun b o h => Or.inl (hI.keep b o h), fun b' o h => ?_, fun b' o h => ?_, fun m c hm => ?_, fun m v hm => ?_, fun m k x y q hm hk h1 h2 => ?_⟩
  · rcases h with h | rfl
    · exact hI.Fnew b' o h
    · exact Or.inr g2
  · rcases h with h | rfl
    · exact hI.Flt b' o h
    · exact hlt
  · obtain ⟨hne, cs0, h1, h2⟩ := frz_inv hm
    injection h2 with h2; subst h2
    obtain ⟨b', arr', t', k1, k2, k3, k4, k5, k6⟩ := hI.box m cs0 h1
    refine ⟨b', arr', t', k1, k2, k3, by rw [k4]; simp, fun j x hj => ?_, fun o h => ?_⟩
    · rw [List.getElem?_map, Option.map_eq_some_iff] at hj
      obtain ⟨z, hz, rfl⟩ := hj
      exact frz1_rep hI hn hb (k5 j z hz)
    · rcases h with h | rfl
      · exact k6 o h
      · exact hne (hI.disj m n _ _ b' h1 hn (by rw [k1]; rfl) (by rw [hb]; rfl))
  · obtain ⟨hne, cs0, h1, h2⟩ := frz_inv hm
    cases h2
  · obtain ⟨_, c1, e1, rfl⟩ := frz_inv hm
    obtain ⟨_, c2, e2, rfl⟩ := frz_inv hk
    have a1 : (E.N m).own (.box c1) = some q := by
      have : (E.N m).own (.box (c1.map (frz1 P E.hs n))) = some q := h1
      cases hN : E.N m <;> rw [hN] at this <;> exact this
    have a2 : (E.N k).own (.box c2) = some q := by
      have : (E.N k).own (.box (c2.map (frz1 P E.hs n))) = some q := h2
      cases hN : E.N k <;> rw [hN] at this <;> exact this
    exact hI.disj m k _ _ q e1 e2 a1 a2
end Go.Proofs.Ytcfaaeipgmokfaa.Ev
