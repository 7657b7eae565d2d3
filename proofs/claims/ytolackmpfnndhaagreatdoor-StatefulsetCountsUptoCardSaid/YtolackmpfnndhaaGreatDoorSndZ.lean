/- A slice that was written into becomes one that stays. Conditions: stated at each. -/
import Derived.Test.YtolackmpfnndhaaGreatDoorSnd9
namespace Go.Proofs.YtolackmpfnndhaaGreatDoor.Ev
open Go Go.RowKit
set_option linter.unusedVariables false
set_option linter.unusedSimpArgs false
variable {P : Program}
theorem normL_frz : ∀ {ts : List Nat} {xs ys : List V}, normL P ts xs = some ys → ∀ (j : Nat) (y : V), ys[j]? = some y → Frz y
  | [], [], ys, h, j, y, hj => by simp [normL] at h; subst h; simp at hj
  | t :: ts, x :: xs, ys, h, j, y, hj => by
    simp only [normL] at h
    rw [Option.bind_eq_some_iff] at h
    obtain ⟨z, hz, h⟩ := h
    rw [Option.map_eq_some_iff] at h
    obtain ⟨zs, hzs, rfl⟩ := h
    cases j with
    | zero => simp at hj; subst hj; exact normX_frz hz
    | succ j => exact normL_frz hzs j y (by simpa using hj)
  | [], _ :: _, ys, h, _, _, _ => by simp [normL] at h
  | _ :: _, [], ys, h, _, _, _ => by simp [normL] at h
theorem chunkV_laid {E : En} {el sz : Nat} (hc : (ctsOf P el).length = sz) : ∀ {n : Nat} {cs : List V} {rows : Rows} {vs : Nat → Value}, chunkV P el sz n cs = some rows → (∀ (j : Nat) (y : V), cs[j]? = some y → Rep P E (vs j) y) →
    rows.length = n ∧ cs.length = n * sz ∧ ∀ (i : Nat) (r : Row), rows[i]? = some r → r.length = sz ∧ eta P el r = r ∧ ∀ (j : Nat) (y : V), r[j]? = some y → Rep P E (vs (i * sz + j)) y ∧ Frz y
  | 0, [], rows, vs, h, _ => by simp [chunkV] at h; subst h; exact ⟨rfl, by simp, fun i r hi => by simp at hi⟩
  | 0, _ :: _, rows, vs, h, _ => by simp [chunkV] at h
  | n + 1, cs, rows, vs, h, hx => by
    unfold chunkV at h
    rw [Option.bind_eq_some_iff] at h
    obtain ⟨r, hr, h⟩ := h
    rw [Option.map_eq_some_iff] at h
    obtain ⟨l, hl, rfl⟩ := h
    obtain ⟨n1, n2, n3, n4⟩ := normL_spec (P := P) (E := E) hr
    have n5 := normL_eta hr
    have n6 := normL_frz hr
    rw [List.length_take, hc] at n2
    obtain ⟨k1, k2, k3⟩ := chunkV_laid hc (vs := fun j => vs (sz + j)) hl (fun j y hj => hx (sz + j) y (by rw [List.getElem?_drop] at hj; exact hj))
    rw [List.length_drop] at k2
    refine ⟨by simp [k1], by rw [Nat.add_mul]; omega, fun i q hq => ?_⟩
    cases i with
    | zero =>
      simp at hq; subst hq
      refine ⟨by rw [n1, hc], n5.1, fun j y hj => ⟨?_, n6 j y hj⟩⟩
      rw [Nat.zero_mul, Nat.zero_add]
      refine n4 (fun j => vs j) (fun j y hj => ?_) j y hj
      rw [List.getElem?_take] at hj
      split at hj
      · exact hx j y hj
      · cases hj
    | succ i =>
      obtain ⟨q1, q2, q3⟩ := k3 i q (by simpa using hq)
      refine ⟨q1, q2, fun j y hj => ?_⟩
      have := q3 j y hj
      have e : (i + 1) * sz + j = sz + (i * sz + j) := by rw [Nat.add_mul]; omega
      rw [e]; exact this
/-- The memory after the slot n has become a row that stays; B: its block. -/
def frzE (P : Program) (n : Nat) (B : Nat → Prop) (E : En) : En := ⟨E.w, fun b' o => E.F b' o ∨ B b', E.N, (E.hs.map (frzB P E.hs n)).set n none⟩
theorem frz_get (E : En) (n : Nat) (B : Nat → Prop) (m : Nat) : (frzE P n B E).hs.getD m none = if m = n then none else frzB P E.hs n (E.hs.getD m none) := by
  show ((E.hs.map (frzB P E.hs n)).set n none).getD m none = _
  rw [getD_set_blk]
  by_cases h : m = n
  · subst h
    by_cases h2 : m < (E.hs.map (frzB P E.hs m)).length
    · rw [if_pos ⟨rfl, h2⟩, if_pos rfl]
    · rw [if_neg (fun e => h2 e.2), if_pos rfl, List.getD_eq_getElem?_getD, List.getElem?_eq_none (by omega)]; rfl
  · rw [if_neg (fun e => h e.1), if_neg h, List.getD_eq_getElem?_getD, List.getD_eq_getElem?_getD, List.getElem?_map]
    cases hq : E.hs[m]? with
    | none => rfl
    | some x => rfl
theorem frz_box {E : En} {n m : Nat} {B : Nat → Prop} (h : m ≠ n) {cs : List V} (hm : E.hs.getD m none = some (.box cs)) : (frzE P n B E).hs.getD m none = some (.box (cs.map (frz1 P E.hs n))) := by
  rw [frz_get, if_neg h, hm]; rfl
theorem frz_arr {E : En} {n m : Nat} {B : Nat → Prop} (h : m ≠ n) {t v : Nat} {es : Rows} (hm : E.hs.getD m none = some (.arr t v es)) : (frzE P n B E).hs.getD m none = some (.arr t v es) := by
  rw [frz_get, if_neg h, hm]; rfl
theorem frz_obj {E : En} {n m : Nat} {B : Nat → Prop} (h : m ≠ n) {q : Q} (hm : E.hs.getD m none = some (.obj q)) : (frzE P n B E).hs.getD m none = some (.obj q) := by
  rw [frz_get, if_neg h, hm]; rfl
theorem frz_inv {E : En} {n m : Nat} {B : Nat → Prop} {x : Blk} (h : (frzE P n B E).hs.getD m none = some x) : m ≠ n ∧ ((∃ cs, E.hs.getD m none = some (.box cs) ∧ x = .box (cs.map (frz1 P E.hs n))) ∨ (∃ t v es, E.hs.getD m none = some (.arr t v es) ∧ x = .arr t v es) ∨ ∃ q, E.hs.getD m none = some (.obj q) ∧ x = .obj q) := by
  rw [frz_get] at h
  split at h
  · cases h
  · rename_i hne
    refine ⟨hne, ?_⟩
    unfold frzB at h
    split at h
    · rename_i cs hcs; injection h with h; exact Or.inl ⟨cs, hcs, h.symm⟩
    · rename_i t v es hcs; injection h with h; exact Or.inr (Or.inl ⟨t, v, es, hcs, h.symm⟩)
    · rename_i q hcs; injection h with h; exact Or.inr (Or.inr ⟨q, hcs, h.symm⟩)
    · cases h
theorem frz_le {E : En} {n : Nat} {B : Nat → Prop} : En.Le (E0 E.w E.F) (frzE P n B E) := ⟨fun _ _ => rfl, fun _ _ h => Or.inl h, fun n cs h => by simp [E0] at h, fun n v h => by simp [E0] at h, fun n t v es h => by simp [E0] at h, fun n q h => by simp [E0] at h⟩
theorem rep_open {E : En} {v : Value} {t : Nat} {es : Rows} {k : K} (h : Rep P E v (.slice t es k)) : Rep P E v (.slice t es .open) := by
  cases h with
  | slice t es k a cap sz vs hcap hnone hsz hrow hc hx hk => exact .slice t es .open a cap sz vs hcap hnone hsz hrow hc hx trivial
theorem rep_stays {E : En} {v : Value} {x : V} (h : Rep P E v x) (hs : stays x = true) : Rep P (E0 E.w E.F) v x := by
  cases x with
  | nils => rw [rep_nils_inv h]; exact .nils
  | slice t es k =>
    cases k with
    | «open» => exact h.frozen trivial
    | _ => cases hs
  | dead => exact .dead v
  | bool b => exact h.frozen trivial
  | int k n => exact h.frozen trivial
  | str s => exact h.frozen trivial
  | _ => cases hs
theorem rep_staysR {E : En} {v : Value} {cs : List V} (h : Rep P E v (.rptr cs)) (hs : cs.all stays = true) : Rep P (E0 E.w E.F) v (.rptr cs) := by
  cases h with
  | rptr A cs vs hc hx => exact .rptr A cs vs hc (fun j x hj => rep_stays (hx j x hj) (List.all_eq_true.1 hs x (List.mem_of_getElem? hj)))
theorem rep_frzC {E : En} {v : Value} {x : V} (h : Rep P E v x) : Rep P (E0 E.w E.F) v (frzC x) := by
  cases x with
  | nils => rw [rep_nils_inv h]; exact .nils
  | slice t es k => exact (rep_open h).frozen trivial
  | bool b => exact h.frozen trivial
  | int k n => exact h.frozen trivial
  | str s => exact h.frozen trivial
  | _ => exact .dead v
theorem frz0_rep {w0 : World} {F0 : Fz} {E : En} (hI : Inv P w0 F0 E) {n : Nat} {B : Nat → Prop} (hB : ∀ x b, E.hs.getD n none = some x → (E.N n).own x = some b → B b) {v : Value} {x : V} (h : Rep P E v x) : Rep P (frzE P n B E) v (frz0 P E.hs n x) := by
  have keep : ∀ {v : Value} {x : V}, Rep P E v x → Frz x → Rep P (frzE P n B E) v x := fun h hf => (h.frozen hf).mono frz_le
  cases x with
  | bool b => rw [rep_bool_inv h]; exact .bool b
  | int k m => rw [rep_int_inv h]; exact .int k m
  | str s => rw [rep_str_inv h]; exact .str s
  | nils => rw [rep_nils_inv h]; exact .nils
  | fn f c =>
    show Rep P _ v (bif c.all staysP then .fn f c else .dead)
    cases hc : c.all staysP with
    | false => exact .dead v
    | true =>
      cases h with
      | fn f cs xs hl hx =>
        refine .fn f cs c hl (fun i x hi => ?_)
        have h1 := List.all_eq_true.1 hc x (List.mem_of_getElem? hi)
        cases x with
        | rptr ds => exact (rep_staysR (hx i _ hi) h1).mono frz_le
        | _ => cases h1
  | slice t es k => exact keep (rep_open h) trivial
  | rptr cs =>
    show Rep P _ v (bif cs.all stays then .rptr cs else .dead)
    cases hc : cs.all stays with
    | false => exact .dead v
    | true => exact (rep_staysR h hc).mono frz_le
  | optr m off =>
    obtain ⟨b', hv, hN, cs', hcs'⟩ := rep_optr_inv h
    show Rep P _ v (bif Nat.beq m n then (match getB E.hs n with | some cs => .rptr ((cs.map frzC).drop off) | none => .dead) else .optr m off)
    rw [cond_eq_ite]
    split
    · rename_i he
      have he := Nat.eq_of_beq_eq_true he
      subst he
      have hg : getB E.hs m = some cs' := by unfold getB; rw [hcs']
      rw [hg]
      obtain ⟨b2, arr, t2, g1, g2, g3, g4, g5, g6⟩ := hI.box m cs' hcs'
      rw [hN] at g1; injection g1 with g1; subst g1
      have hBb : B b' := hB _ b' hcs' (by rw [hN]; rfl)
      rw [hv]
      have hidx : ∀ (j : Nat) (x : V), ((cs'.map frzC).drop off)[j]? = some x → ∃ z, cs'[off + j]? = some z ∧ x = frzC z := by
        intro j x hj
        rw [List.getElem?_drop, List.getElem?_map, Option.map_eq_some_iff] at hj
        obtain ⟨z, hz, e⟩ := hj
        exact ⟨z, hz, e.symm⟩
      refine .rptr _ _ (fun j => arr.getD (off + j) undef) (fun j x hj => ?_) (fun j x hj => ?_)
      · obtain ⟨z, hz, _⟩ := hidx j x hj
        have e : Addr.add ⟨b', off, none⟩ j = ⟨b', off + j, none⟩ := by unfold Addr.add; split <;> simp_all
        rw [e]
        refine ⟨?_, Or.inr hBb⟩
        show E.w.cell? _ = _
        rw [cell_of_row E.w b' (off + j) arr t2 _ g3]
        have hlt : off + j < arr.size := by
          rw [g4]
          rcases Nat.lt_or_ge (off + j) cs'.length with h | h
          · exact h
          · rw [List.getElem?_eq_none h] at hz; cases hz
        simp [Array.getD_eq_getD_getElem?, hlt]
      · obtain ⟨z, hz, rfl⟩ := hidx j x hj
        exact (rep_frzC (g5 _ z hz)).mono frz_le
    · rename_i hne
      have hne : m ≠ n := fun e => hne (by rw [e]; exact Nat.beq_refl n)
      rw [hv]; exact .optr m off b' hN ⟨_, frz_box hne hcs'⟩
  | sref t m len =>
    obtain ⟨b', hv, hN, cs', hcs'⟩ := rep_sref_inv h
    unfold frz0
    simp only []
    rw [cond_eq_ite]
    split
    · rename_i he
      have he := Nat.eq_of_beq_eq_true he
      subst he
      split
      · rename_i rows hr
        rw [Option.bind_eq_some_iff] at hr
        obtain ⟨sz, hsz, hr⟩ := hr
        rw [Option.bind_eq_some_iff] at hr
        obtain ⟨c2, hc2, hr⟩ := hr
        rw [cond_eq_ite] at hr
        split at hr
        · rename_i hl
          have hl := Nat.eq_of_beq_eq_true hl
          have hn := getB_box hc2
          obtain ⟨b2, arr, t2, g1, g2, g3, g4, g5, g6⟩ := hI.box m c2 hn
          rw [hN] at g1; injection g1 with g1; subst g1
          have hBb : B b' := hB _ b' hn (by rw [hN]; rfl)
          obtain ⟨k1, k2, k3⟩ := chunkV_laid hl (vs := fun j => arr.getD j undef) hr g5
          rw [hv, ← k1]
          refine .slice t rows .open (some ⟨b', 0, none⟩) rows.length sz (fun j => arr.getD j undef) (Nat.le_refl _) (fun e => by cases e) hsz (fun i r hi => ⟨(k3 i r hi).1, (k3 i r hi).2.1⟩) (fun i r j y hi hj A hA => ?_) (fun i r j y hi hj => ?_) trivial
          · injection hA with hA; subst hA
            rw [addr_zero_add]
            refine ⟨?_, Or.inr hBb⟩
            show E.w.cell? _ = _
            rw [cell_of_row _ _ _ arr t2 (0, 0) g3]
            obtain ⟨l1, _, _⟩ := k3 i r hi
            obtain ⟨p1, p2, p3⟩ := row_idx l1 hi hj
            have hbnd : i * sz + j < arr.size := by rw [g4, k2, ← k1]; omega
            simp [Array.getD_eq_getD_getElem?, hbnd]
          · obtain ⟨r1, r2⟩ := (k3 i r hi).2.2 j y hj
            exact keep r1 r2
        · cases hr
      · exact .dead v
    · rename_i hne
      have hne : m ≠ n := fun e => hne (by rw [e]; exact Nat.beq_refl n)
      rw [hv]; exact .sref t m len b' hN ⟨_, frz_box hne hcs'⟩
  | aref t m ver lo len =>
    unfold frz0
    simp only []
    split
    · rename_i p hp
      obtain ⟨t', v', es⟩ := p
      have hg : E.hs.getD m none = some (.arr t' v' es) := getA_arr hp
      rw [cond_eq_ite]
      split
      · rename_i hb
        rw [Bool.and_eq_true] at hb
        have e1 := Nat.eq_of_beq_eq_true hb.1
        have e2 := Nat.eq_of_beq_eq_true hb.2
        simp only [] at e1 e2
        subst e1; subst e2
        rw [cond_eq_ite]
        split
        · rename_i he
          have he := Nat.eq_of_beq_eq_true he
          subst he
          exact aref_part hI hg h rfl (fun b o h => Or.inl h) (fun b hb o => Or.inr (hB _ b hg hb))
        · rename_i hne
          have hne : m ≠ n := fun e => hne (by rw [e]; exact Nat.beq_refl n)
          cases h with
          | aref a0 c0 t n v lo len g0 g1 g2 hh =>
            obtain ⟨v'', es', q1, q2, q3⟩ := hh
            exact .aref a0 c0 _ _ _ lo len g0 g1 g2 ⟨v'', es', frz_arr hne q1, q2, q3⟩
      · exact .dead v
    · exact .dead v
  | eptr t m ver i off =>
    unfold frz0
    simp only []
    split
    · rename_i p hp
      rw [cond_eq_ite]
      split
      · rename_i hb
        rw [Bool.and_eq_true, Bool.and_eq_true] at hb
        have hne : m ≠ n := fun e => by rw [e, Nat.beq_refl] at hb; simp at hb
        cases h with
        | eptr A t n v i off hh =>
          obtain ⟨v'', es', q1, q2, q3⟩ := hh
          exact .eptr A _ _ _ i off ⟨v'', es', frz_arr hne q1, q2, q3⟩
      · exact .dead v
    · exact .dead v
  | it d m =>
    show Rep P _ v (bif Nat.beq d n then V.dead else V.it d m)
    rw [cond_eq_ite]
    split
    · exact .dead v
    · rename_i hne
      have hne : d ≠ n := fun e => hne (by rw [e]; exact Nat.beq_refl n)
      obtain ⟨b, rfl, hb, q, hq⟩ := rep_it_inv h
      exact .it d m b hb ⟨q, frz_obj hne hq⟩
  | mref m =>
    show Rep P _ v (bif Nat.beq m n then V.dead else V.mref m)
    rw [cond_eq_ite]
    split
    · exact .dead v
    · rename_i hne
      have hne : m ≠ n := fun e => hne (by rw [e]; exact Nat.beq_refl n)
      obtain ⟨b, rfl, hb, q, hq⟩ := rep_mref_inv h
      exact .mref m b hb ⟨q, frz_obj hne hq⟩
  | dead => exact .dead v
  | agg _ => exact .dead v
  | tuple _ => exact .dead v
  | when _ _ _ => exact .dead v
theorem frz1_rep {w0 : World} {F0 : Fz} {E : En} (hI : Inv P w0 F0 E) {n : Nat} {B : Nat → Prop} (hB : ∀ x b, E.hs.getD n none = some x → (E.N n).own x = some b → B b) {v : Value} {x : V} (h : Rep P E v x) : Rep P (frzE P n B E) v (frz1 P E.hs n x) := by
  cases x with
  | agg xs =>
    cases h with
    | agg ar xs hl hx =>
      refine .agg ar _ (by rw [hl]; simp) (fun i y hi => ?_)
      rw [List.getElem?_map, Option.map_eq_some_iff] at hi
      obtain ⟨z, hz, rfl⟩ := hi
      exact frz0_rep hI hB (hx i z hz)
  | _ => exact frz0_rep hI hB h
theorem Inv.frz {w0 : World} {F0 : Fz} {E : En} (hI : Inv P w0 F0 E) {n : Nat} {x0 : Blk} (hn : E.hs.getD n none = some x0) (ht : ∀ v, x0 ≠ .tail v) (hnq : ∀ q, x0 ≠ .obj q) : Inv P w0 F0 (frzE P n (fun b => (E.N n).own x0 = some b) E) := by
  have hB : ∀ x b, E.hs.getD n none = some x → (E.N n).own x = some b → (E.N n).own x0 = some b := by
    intro x b hx ho
    rw [hn] at hx; injection hx with hx; subst hx; exact ho
  have hown : ∀ b, (E.N n).own x0 = some b → b < E.w.heap.size ∧ (w0.heap.size ≤ b ∨ F0.M b) := by
    intro b ho
    refine ⟨hI.ownLt hn ho, ?_⟩
    cases x0 with
    | box cs =>
      obtain ⟨b2, arr, t2, g1, g2, g3, g4, g5, g6⟩ := hI.box n cs hn
      rw [g1] at ho
      have : some b2 = some b := ho
      injection this with this; subst this; exact g2
    | tail v => exact absurd rfl (ht v)
    | arr t v es => exact (hI.arrOwn hn ho).2.1
    | obj q =>
      obtain ⟨b2, o2, g1, g2, g3, g4, g5⟩ := hI.obj n q hn
      rw [g1] at ho
      have : some b2 = some b := ho
      injection this with this; subst this; exact g2
  refine ⟨hI.below, fun b o h => Or.inl (hI.keep b o h), fun b' o h => ?_, fun b' o h => ?_, fun m c hm => ?_, fun m v hm => ?_, fun m t v es hm => ?_, fun m q hm => ?_, fun m k x y q hm hk h1 h2 => ?_, hI.glob⟩
  · rcases h with h | h
    · exact hI.Fnew b' o h
    · exact Or.inr (hown b' h).2
  · rcases h with h | h
    · exact hI.Flt b' o h
    · exact (hown b' h).1
  · obtain ⟨hne, ⟨cs0, h1, h2⟩ | ⟨_, _, _, _, h2⟩ | ⟨_, _, h2⟩⟩ := frz_inv hm
    · injection h2 with h2; subst h2
      obtain ⟨b', arr', t', k1, k2, k3, k4, k5, k6⟩ := hI.box m cs0 h1
      refine ⟨b', arr', t', k1, k2, k3, by rw [k4]; simp, fun j x hj => ?_, fun o h => ?_⟩
      · rw [List.getElem?_map, Option.map_eq_some_iff] at hj
        obtain ⟨z, hz, rfl⟩ := hj
        exact frz1_rep hI hB (k5 j z hz)
      · rcases h with h | h
        · exact k6 o h
        · exact hne (hI.disj m n _ _ b' h1 hn (by rw [k1]; rfl) h)
    · cases h2
    · cases h2
  · obtain ⟨hne, ⟨cs0, h1, h2⟩ | ⟨_, _, _, _, h2⟩ | ⟨_, _, h2⟩⟩ := frz_inv hm
    · cases h2
    · cases h2
    · cases h2
  · obtain ⟨hne, ⟨cs0, h1, h2⟩ | ⟨t0, v0, es0, h1, h2⟩ | ⟨_, _, h2⟩⟩ := frz_inv hm
    · cases h2
    · injection h2 with e1 e2 e3; subst e1; subst e2; subst e3
      obtain ⟨a, cap, sz, g1, g2, g3, g4, g5, g6⟩ := hI.arr m t v es h1
      refine ⟨a, cap, sz, g1, g2, g3, g4, g5, fun hc => ?_⟩
      obtain ⟨b, arr, ty, k1, k2, k3, k4, k5, k6⟩ := g6 hc
      refine ⟨b, arr, ty, k1, k2, k3, k4, fun o h => ?_, fun i r j x hi hj => ?_⟩
      · rcases h with h | h
        · exact k5 o h
        · exact hne (hI.disj m n _ _ b h1 hn (by rw [g1, k1]; exact own_arr hc) h)
      · have hf : Frz x := by
          obtain ⟨_, he⟩ := g5 i r hi
          rw [← he] at hj
          exact etaL_frz r _ 0 j x hj
        exact ((k6 i r j x hi hj).frozen hf).mono frz_le
    · cases h2
  · obtain ⟨hne, ⟨cs0, h1, h2⟩ | ⟨_, _, _, _, h2⟩ | ⟨q0, h1, h2⟩⟩ := frz_inv hm
    · cases h2
    · cases h2
    · injection h2 with h2; subst h2
      obtain ⟨b, o, k1, k2, k3, k4, k5⟩ := hI.obj m q h1
      refine ⟨b, o, k1, k2, k3, ?_, fun o' h => ?_⟩
      · cases q with
        | mp t es => exact k4.frozen.mono frz_le
        | it m2 n2 seen =>
          obtain ⟨mb, w1, ⟨q9, w2⟩, w3⟩ := k4
          have hne : m2 ≠ n := fun e => by rw [e, hn] at w2; injection w2 with w2; exact hnq _ w2
          exact ⟨mb, w1, ⟨q9, frz_obj hne w2⟩, w3⟩
      rcases h with h | h
      · exact k5 o' h
      · exact hne (hI.disj m n _ _ b h1 hn (own_obj k1) h)
  · have conv : ∀ m x, (frzE P n (fun b => (E.N n).own x0 = some b) E).hs.getD m none = some x → (E.N m).own x = some q → ∃ y, E.hs.getD m none = some y ∧ (E.N m).own y = some q := by
      intro m x hm ho
      obtain ⟨_, ⟨c1, e1, rfl⟩ | ⟨t, v, es, e1, rfl⟩ | ⟨q, e1, rfl⟩⟩ := frz_inv hm
      · refine ⟨_, e1, ?_⟩
        cases hN : E.N m <;> rw [hN] at ho <;> exact ho
      · exact ⟨_, e1, ho⟩
      · exact ⟨_, e1, ho⟩
    obtain ⟨x', e1, a1⟩ := conv m x hm h1
    obtain ⟨y', e2, a2⟩ := conv k y hk h2
    exact hI.disj m k _ _ q e1 e2 a1 a2
end Go.Proofs.YtolackmpfnndhaaGreatDoor.Ev
