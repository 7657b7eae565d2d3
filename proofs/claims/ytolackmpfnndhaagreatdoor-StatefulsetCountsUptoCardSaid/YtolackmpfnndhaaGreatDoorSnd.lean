/- The operations that turn nothing: what the machine does is what the abstract run says. Conditions: stated at each. -/
import Derived.Test.YtolackmpfnndhaaGreatDoorRep
namespace Go.Proofs.YtolackmpfnndhaaGreatDoor.Ev
open Go Go.RowKit
set_option linter.unusedVariables false
variable {P : Program}
theorem idxOf_spec : ∀ {ops : List Oper} {t i j : Nat}, idxOf ops t i = some j → i ≤ j ∧ (ops[j - i]?).bind (·.dst) = some t
  | [], _, _, _, h => by cases h
  | o :: l, t, i, j, h => by
    have step : idxOf l t (i + 1) = some j → i ≤ j ∧ ((o :: l)[j - i]?).bind (·.dst) = some t := by
      intro h1
      obtain ⟨h2, h3⟩ := idxOf_spec h1
      refine ⟨by omega, ?_⟩
      have : j - i = (j - (i + 1)) + 1 := by omega
      rw [this, List.getElem?_cons_succ]; exact h3
    unfold idxOf at h
    cases hd : o.dst with
    | none => simp only [hd] at h; exact step h
    | some d =>
      simp only [hd] at h
      rw [cond_eq_ite] at h
      split at h
      · rename_i hb
        have := Nat.eq_of_beq_eq_true hb
        injection h with h; subst h; subst this
        simp [hd]
      · exact step h
theorem getR_spec : ∀ {cs : List V} {off n : Nat} {l : List V}, getR cs off n = some l → l.length = n ∧ off + n ≤ cs.length + (if n = 0 then off else 0) ∧ ∀ j, j < n → l[j]? = cs[off + j]?
  | cs, off, 0, l, h => by
    have : l = [] := by cases cs <;> cases off <;> (simp [getR] at h; exact h)
    subst this; simp
  | [], off, n + 1, l, h => by simp [getR] at h
  | c :: cs, 0, n + 1, l, h => by
    unfold getR at h
    rw [Option.map_eq_some_iff] at h
    obtain ⟨l', h', rfl⟩ := h
    obtain ⟨h1, h2, h3⟩ := getR_spec h'
    refine ⟨by simp [h1], ?_, fun j hj => ?_⟩
    · simp only [List.length_cons]; split at h2 <;> simp_all <;> omega
    · cases j with
      | zero => simp
      | succ j =>
        rw [List.getElem?_cons_succ, h3 j (by omega)]
        have : 0 + (j + 1) = (0 + j) + 1 := by omega
        rw [this, List.getElem?_cons_succ]
  | c :: cs, off + 1, n + 1, l, h => by
    unfold getR at h
    obtain ⟨h1, h2, h3⟩ := getR_spec h
    refine ⟨h1, ?_, fun j hj => ?_⟩
    · simp only [List.length_cons]; split at h2 <;> simp_all <;> omega
    · rw [h3 j hj]
      have : off + 1 + j = (off + j) + 1 := by omega
      rw [this, List.getElem?_cons_succ]
theorem run_underlying_ {t : Nat} {d : TypeDesc} (h : P.underlying t = some d) (w : World) : (underlying t).run P w = .ok d w := by simp [underlying, h]
theorem sizeT_info {t n : Nat} (h : sizeT P t = some n) : ∃ i, P.info? t = some i ∧ i.size = n := by
  unfold sizeT at h
  rw [Option.map_eq_some_iff] at h
  exact h
theorem run_sizeOf_ {t n : Nat} (h : sizeT P t = some n) (w : World) : (sizeOf t).run P w = .ok n w := by
  obtain ⟨i, h1, h2⟩ := sizeT_info h
  simp [sizeOf, typeInfo, h1, h2]
theorem load_run {E : En} {t : Nat} {cs : List V} {off : Nat} {x : V} {A : Addr} {vs : Nat → Value} (h : loadV P t cs off = some x)
    (hc : ∀ (j : Nat) (y : V), cs[off + j]? = some y → E.w.cell? (A.add j) = some (vs j) ∧ Rep P E (vs j) y) : ∃ v, (loadVar t A).run P E.w = .ok v E.w ∧ Rep P E v x := by
  have one : cs[off]? = some x → ∀ d, P.underlying t = some d → (∀ fs, d ≠ .struct fs) → (∀ n e, d ≠ .array n e) → ∃ v, (loadVar t A).run P E.w = .ok v E.w ∧ Rep P E v x := by
    intro h1 d hd n1 n2
    obtain ⟨h2, h3⟩ := hc 0 x (by simpa using h1)
    have hA : A.add 0 = A := by simp [Addr.add]
    rw [hA] at h2
    refine ⟨vs 0, ?_, h3⟩
    cases d <;> first | exact absurd rfl (n1 _) | exact absurd rfl (n2 _ _) | simp [loadVar, isAgg, underlying, hd, load, Sem.run, h2]
  have many : ∀ d, P.underlying t = some d → ((∃ fs, d = .struct fs) ∨ ∃ n e, d = .array n e) → ((sizeT P t).bind fun n => (getR cs off n).map V.agg) = some x → ∃ v, (loadVar t A).run P E.w = .ok v E.w ∧ Rep P E v x := by
    intro d hd hor h1
    rw [Option.bind_eq_some_iff] at h1
    obtain ⟨n, hn, h1⟩ := h1
    rw [Option.map_eq_some_iff] at h1
    obtain ⟨l, hl, rfl⟩ := h1
    obtain ⟨h2, _, h4⟩ := getR_spec hl
    have hcell : ∀ j, j < n → E.w.cell? (A.add j) = some (vs j) := by
      intro j hj
      have h5 : ∃ y, l[j]? = some y := ⟨l[j]'(by omega), List.getElem?_eq_getElem (by omega)⟩
      obtain ⟨y, hy⟩ := h5
      exact (hc j y (by rw [← h4 j hj, hy])).1
    have hload := run_loadCells (P := P) (w := E.w) A n vs hcell
    refine ⟨.agg _, ?_, .agg (((List.range n).map vs).toArray) l (by simp [h2]) ?_⟩
    · obtain ⟨i, hi, hs⟩ := sizeT_info hn
      rcases hor with ⟨fs, rfl⟩ | ⟨m, e, rfl⟩
      · simp [loadVar, isAgg, underlying, hd, sizeOf, typeInfo, hi, hs, hload]
      · simp [loadVar, isAgg, underlying, hd, sizeOf, typeInfo, hi, hs, hload]
    · intro j y hy
      have hj : j < n := by
        rcases Nat.lt_or_ge j n with h | h
        · exact h
        · rw [List.getElem?_eq_none (by omega)] at hy; cases hy
      have : (((List.range n).map vs).toArray).getD j undef = vs j := by simp [Array.getD_eq_getD_getElem?, hj]
      rw [this]
      exact (hc j y (by rw [← h4 j hj, hy])).2
  unfold loadV at h
  split at h
  · cases h
  · rename_i fs hd; exact many _ hd (Or.inl ⟨_, rfl⟩) h
  · rename_i n e hd; exact many _ hd (Or.inr ⟨_, _, rfl⟩) h
  · rename_i d n1 n2 hd; exact one h _ hd (fun fs e => n1 fs e) (fun n el e => n2 n el e)
theorem getB_box {hs : List (Option Blk)} {n : Nat} {cs : List V} (h : getB hs n = some cs) : hs.getD n none = some (.box cs) := by
  unfold getB at h
  split at h
  · rename_i cs' h1; injection h with h; rw [h1, h]
  · cases h
/-- What lies in a box. -/
theorem Inv.boxed {w0 : World} {F0 : Fz} {E : En} (hI : Inv P w0 F0 E) {n b off : Nat} {cs : List V} (hb : E.N n = .blk b) (h : getB E.hs n = some cs) :
    ∃ vs : Nat → Value, ∀ (j : Nat) (y : V), cs[off + j]? = some y → E.w.cell? (Addr.add ⟨b, off, none⟩ j) = some (vs j) ∧ Rep P E (vs j) y := by
  obtain ⟨b', arr, t, h1, h2, h3, h4, h5, h6⟩ := hI.box n cs (getB_box h)
  rw [hb] at h1
  injection h1 with h1
  subst h1
  refine ⟨fun j => arr.getD (off + j) undef, fun j y hy => ⟨?_, h5 _ _ hy⟩⟩
  have e : Addr.add ⟨b, off, none⟩ j = ⟨b, off + j, none⟩ := by unfold Addr.add; split <;> simp_all
  rw [e, cell_of_row E.w b (off + j) arr t _ h3]
  have hlt : off + j < arr.size := by
    rw [h4]
    rcases Nat.lt_or_ge (off + j) cs.length with h | h
    · exact h
    · rw [List.getElem?_eq_none h] at hy; cases hy
  simp [Array.getD_eq_getD_getElem?, hlt]
theorem getA_arr {hs : List (Option Blk)} {n : Nat} {p : Nat × Nat × Rows} (h : getA hs n = some p) : hs.getD n none = some (.arr p.1 p.2.1 p.2.2) := by
  unfold getA at h
  split at h
  · rename_i t v es h1; injection h with h; rw [h1, ← h]
  · cases h
theorem rep_eptr_ptr {E : En} {v : Value} {t n ver : Nat} {i : Int} {off : Nat} (h : Rep P E v (.eptr t n ver i off)) : ∃ A, v = .pointer (some A) := by
  cases h; exact ⟨_, rfl⟩
theorem rep_aref_inv {E : En} {v : Value} {t n ver : Nat} {lo : Option Int} {len : Int} (h : Rep P E v (.aref t n ver lo len)) : ∃ a c, v = .slice a len.toNat c ∧ 0 ≤ len ∧ len.toNat ≤ c ∧ (0 < c → ∃ A, a = some A) ∧ ∃ v' es, E.hs.getD n none = some (.arr t v' es) ∧ ver ≤ v' ∧ (ver = v' → ARef P (E.N n) t es.length lo len a c) := by
  cases h with
  | aref a0 c0 t n v lo len g0 g1 g2 hh => exact ⟨a0, c0, rfl, g0, g1, g2, hh⟩
theorem rAt_of {es : Rows} {i : Int} {r : Row} (h : es[i.toNat]? = some r) : rAt es i = r := by simp [rAt, List.getD_eq_getElem?_getD, h]
/-- A pointer into an array that may be written into: where it leads. -/
theorem eptr_now {E : En} {v : Value} {el n ver : Nat} {i : Int} {off : Nat} {es : Rows} (h : Rep P E v (.eptr el n ver i off)) (hg : E.hs.getD n none = some (.arr el ver es)) :
    ∃ b cap sz, E.N n = .arr (some ⟨b, 0, none⟩) es.length cap sz ∧ sizeT P el = some sz ∧ 0 ≤ i ∧ i < es.length ∧ v = .pointer (some ⟨b, i.toNat * sz + off, none⟩) := by
  cases h with
  | eptr A t n v i off hh =>
    obtain ⟨v', es', h1, h2, h3⟩ := hh
    rw [hg] at h1; injection h1 with h1; injection h1 with e1 e2 e3; subst e2; subst e3
    obtain ⟨b, cap, sz, k1, k2, k3, k4, k5⟩ := h3 rfl
    exact ⟨b, cap, sz, k1, k2, k3, k4, by rw [k5]⟩
/-- An array's block, its row i. -/
theorem Inv.rowAt {w0 : World} {F0 : Fz} {E : En} (hI : Inv P w0 F0 E) {el n ver b cap sz : Nat} {es : Rows} (hg : E.hs.getD n none = some (.arr el ver es)) (hN : E.N n = .arr (some ⟨b, 0, none⟩) es.length cap sz) {i : Int} (h0 : 0 ≤ i) (h1 : i < es.length) :
    ∃ arr ty, E.w.heap[b]? = some (.cells arr ty (0, 0)) ∧ cap * sz ≤ arr.size ∧ es.length ≤ cap ∧ 0 < cap ∧ (w0.heap.size ≤ b ∨ F0.M b) ∧ (∀ o, ¬ E.F b o) ∧ (rAt es i).length = sz ∧ eta P el (rAt es i) = rAt es i ∧ es[i.toNat]? = some (rAt es i) ∧ i.toNat * sz + sz ≤ cap * sz ∧
      (∀ (k : Nat) (r : Row) (j : Nat) (x : V), es[k]? = some r → r[j]? = some x → Rep P E (arr.getD (k * sz + j) undef) x) ∧ ∀ (k : Nat) (r : Row), es[k]? = some r → r.length = sz ∧ eta P el r = r := by
  obtain ⟨a, cap', sz', g1, g2, g3, g4, g5, g6⟩ := hI.arr n el ver es hg
  rw [hN] at g1; injection g1 with g1 e2 e3 e4; subst g1; subst e3; subst e4
  have hc : 0 < cap := by omega
  obtain ⟨b', arr, ty, k1, k2, k3, k4, k5, k6⟩ := g6 hc
  injection k1 with k1; injection k1 with k1; subst k1
  have hlt : i.toNat < es.length := by omega
  obtain ⟨r, hr⟩ : ∃ r, es[i.toNat]? = some r := ⟨es[i.toNat], List.getElem?_eq_getElem hlt⟩
  have e := rAt_of hr
  have hb : i.toNat * sz + sz ≤ cap * sz := by
    have : (i.toNat + 1) * sz ≤ cap * sz := Nat.mul_le_mul_right _ (by omega)
    rw [Nat.add_mul] at this; omega
  rw [e]
  exact ⟨arr, ty, k3, k4, g4, hc, k2, k5, (g5 _ _ hr).1, (g5 _ _ hr).2, hr, hb, k6, g5⟩
theorem Inv.elem {w0 : World} {F0 : Fz} {E : En} (hI : Inv P w0 F0 E) {v : Value} {el n ver : Nat} {i : Int} {off : Nat} {es : Rows} (h : Rep P E v (.eptr el n ver i off)) (hg : getA E.hs n = some (el, ver, es)) :
    ∃ A, v = .pointer (some A) ∧ ∃ vs : Nat → Value, ∀ (j : Nat) (y : V), (eta P el (rAt es i))[off + j]? = some y → E.w.cell? (A.add j) = some (vs j) ∧ Rep P E (vs j) y := by
  have hg : E.hs.getD n none = some (.arr el ver es) := getA_arr hg
  obtain ⟨b, cap, sz, k1, k2, k3, k4, k5⟩ := eptr_now h hg
  obtain ⟨arr, ty, q1, q2, q3, q4, q5, q6, q7, q8, q9, q10, q11, q12⟩ := hI.rowAt hg k1 k3 k4
  refine ⟨_, k5, fun j => arr.getD (i.toNat * sz + (off + j)) undef, fun j y hj => ?_⟩
  rw [q8] at hj
  refine ⟨?_, q11 _ _ _ _ q9 hj⟩
  have hlt : off + j < sz := by
    rcases Nat.lt_or_ge (off + j) (rAt es i).length with h | h
    · omega
    · rw [List.getElem?_eq_none h] at hj; cases hj
  have e : Addr.add ⟨b, i.toNat * sz + off, none⟩ j = ⟨b, i.toNat * sz + (off + j), none⟩ := by unfold Addr.add; split <;> simp_all [Nat.add_assoc]
  rw [e, cell_of_row E.w b _ arr ty _ q1]
  have : i.toNat * sz + (off + j) < arr.size := by omega
  simp [Array.getD_eq_getD_getElem?, this]
theorem setR_spec : ∀ {cs : List V} {off : Nat} {xs l : List V}, setR cs off xs = some l → l.length = cs.length ∧ ∀ j, l[j]? = if off ≤ j ∧ j < off + xs.length then xs[j - off]? else cs[j]?
  | cs, 0, [], l, h => by
    have : cs = l := by cases cs <;> simpa [setR] using h
    subst this
    exact ⟨rfl, fun j => by rw [if_neg (by simp)]⟩
  | c :: cs, 0, x :: xs, l, h => by
    unfold setR at h
    rw [Option.map_eq_some_iff] at h
    obtain ⟨l', h', rfl⟩ := h
    obtain ⟨h1, h2⟩ := setR_spec h'
    refine ⟨by simp [h1], fun j => ?_⟩
    cases j with
    | zero => simp
    | succ j =>
      rw [List.getElem?_cons_succ, h2 j]
      simp only [List.length_cons, Nat.zero_le, true_and, Nat.zero_add, Nat.sub_zero, List.getElem?_cons_succ]
      by_cases hj : j < xs.length
      · rw [if_pos hj, if_pos (by omega)]
      · rw [if_neg hj, if_neg (by omega)]
  | c :: cs, n + 1, xs, l, h => by
    unfold setR at h
    rw [Option.map_eq_some_iff] at h
    obtain ⟨l', h', rfl⟩ := h
    obtain ⟨h1, h2⟩ := setR_spec h'
    refine ⟨by simp [h1], fun j => ?_⟩
    cases j with
    | zero => simp
    | succ j =>
      rw [List.getElem?_cons_succ, h2 j, List.getElem?_cons_succ]
      have e : j + 1 - (n + 1) = j - n := by omega
      rw [e]
      by_cases hj : n ≤ j ∧ j < n + xs.length
      · rw [if_pos hj, if_pos (by omega)]
      · rw [if_neg hj, if_neg (by omega)]
  | [], n + 1, [], l, h => by
    simp [setR] at h; subst h
    exact ⟨rfl, fun j => by simp⟩
  | [], n + 1, x :: xs, l, h => by simp [setR] at h
  | [], 0, x :: xs, l, h => by simp [setR] at h
theorem rep_merge {E : En} {c : Bool} {v w : Value} {x y z : V} (h : mergeV c x y = some z) (hx : c = true → Rep P E v x) (hy : c = false → Rep P E w y) : Rep P E (if c then v else w) z := by
  unfold mergeV at h
  split at h
  · injection h with h; subst h
    cases c with
    | true => cases hx rfl; exact .bool _
    | false => cases hy rfl; exact .bool _
  · rw [cond_eq_ite] at h
    split at h
    · rename_i hk
      have hk' := eq_of_beq hk
      subst hk'
      injection h with h; subst h
      cases c with
      | true => cases hx rfl; exact .int _ _
      | false => cases hy rfl; exact .int _ _
    · cases h
  · injection h with h; subst h
    cases c with
    | true => cases hx rfl; exact .str _
    | false => cases hy rfl; exact .str _
  · rw [cond_eq_ite] at h
    split at h
    · rename_i hk
      have hk' := Nat.eq_of_beq_eq_true hk
      subst hk'
      injection h with h; subst h
      cases c with
      | true => cases hx rfl with | slice t1 es k a cap sz vs hcap hnone hsz hrow hc hx' hk => exact .slice _ _ .open a cap sz vs hcap hnone hsz hrow hc hx' trivial
      | false => cases hy rfl with | slice t1 es k a cap sz vs hcap hnone hsz hrow hc hx' hk => exact .slice _ _ .open a cap sz vs hcap hnone hsz hrow hc hx' trivial
    · cases h
  · cases h
theorem rep_dropped {E : En} {A : Addr} {cs : List V} (h : Rep P E (.pointer (some A)) (.rptr cs)) (n : Nat) : Rep P E (.pointer (some (A.add n))) (.rptr (cs.drop n)) := by
  cases h with
  | rptr A cs vs hc hx =>
    refine .rptr _ _ (fun j => vs (n + j)) (fun j x hj => ?_) (fun j x hj => hx _ _ (by rw [← List.getElem?_drop]; exact hj))
    rw [List.getElem?_drop] at hj
    obtain ⟨h1, h2⟩ := hc _ _ hj
    have e : (A.add n).add j = A.add (n + j) := by
      unfold Addr.add
      by_cases hn : n = 0
      · subst hn; simp
      · by_cases hj0 : j = 0
        · subst hj0; simp [hn]
        · simp [hn, hj0, Nat.add_assoc]
    rw [e, addr_add_block, addr_add_off, Nat.add_assoc]
    exact ⟨h1, h2⟩
/-- An element's address. -/
theorem rep_elem {E : En} {el : Nat} {es : Rows} {k : K} {a : Option Addr} {len cap sz : Nat} (h : Rep P E (.slice a len cap) (.slice el es k)) (hsz : sizeT P el = some sz) {n : Int} (hn : iIn n (rLen es) = true) :
    0 ≤ n ∧ n < (len : Int) ∧ ∃ A, a = some A ∧ Rep P E (.pointer (some (A.add (n.toNat * sz)))) (.rptr (eta P el (rAt es n))) := by
  cases h with
  | slice t es k a cap sz' vs hcap hnone hsz' hrow hc hx hk =>
    rw [hsz] at hsz'; injection hsz' with e; subst e
    have hn' : 0 ≤ n ∧ n < (es.length : Int) := of_decide_eq_true hn
    have hlt : n.toNat < es.length := by omega
    obtain ⟨r, hr⟩ : ∃ r, es[n.toNat]? = some r := ⟨es[n.toNat], List.getElem?_eq_getElem hlt⟩
    obtain ⟨h1, h2⟩ := hrow _ _ hr
    cases a with
    | none => have := hnone rfl; omega
    | some A =>
      refine ⟨hn'.1, hn'.2, A, rfl, ?_⟩
      have e : rAt es n = r := by simp [rAt, List.getD_eq_getElem?_getD, hr]
      rw [e, h2]
      refine .rptr _ _ (fun j => vs (n.toNat * sz + j)) (fun j x hj => ?_) (fun j x hj => hx _ _ _ _ hr hj)
      obtain ⟨h3, h4⟩ := hc _ _ _ _ hr hj A rfl
      have e2 : (A.add (n.toNat * sz)).add j = A.add (n.toNat * sz + j) := by
        unfold Addr.add
        by_cases hn : n.toNat * sz = 0
        · rw [hn]; simp
        · by_cases hj0 : j = 0
          · subst hj0; simp [hn]
          · simp [hn, hj0, Nat.add_assoc]
      rw [e2, addr_add_block, addr_add_off, Nat.add_assoc]
      exact ⟨h3, h4⟩
def OptRep (P : Program) (E : En) : Option Value → Option V → Prop
  | none, none => True
  | some v, some x => Rep P E v x
  | _, _ => False
theorem loV_run {E : En} {v : Option Value} {x : Option V} {l : Int} (h : loV x = some l) (hr : OptRep P E v x) :
    (v = none ∧ l = 0) ∨ ∃ k, v = some (.int k l) := by
  cases x with
  | none => cases v with
    | none => simp [loV] at h; exact Or.inl ⟨rfl, h.symm⟩
    | some v => exact hr.elim
  | some x => cases v with
    | none => exact hr.elim
    | some v =>
      cases x <;> simp [loV] at h
      subst h
      cases hr
      exact Or.inr ⟨_, rfl⟩
theorem hiV_run {E : En} {v : Option Value} {x : Option V} {l : Option Int} (h : hiV x = some l) (hr : OptRep P E v x) :
    (v = none ∧ l = none) ∨ ∃ k n, v = some (.int k n) ∧ l = some n := by
  cases x with
  | none => cases v with
    | none => simp [hiV] at h; exact Or.inl ⟨rfl, h.symm⟩
    | some v => exact hr.elim
  | some x => cases v with
    | none => exact hr.elim
    | some v =>
      cases x <;> simp [hiV] at h
      subst h
      cases hr
      exact Or.inr ⟨_, _, rfl, rfl⟩
theorem rep_cells {E : En} {v : Value} {x : V} {l : List V} (h : Rep P E v x) (hl : cellsV x = some l) : v.cells.size = l.length ∧ ∀ (j : Nat) (y : V), l[j]? = some y → Rep P E (v.cells.getD j undef) y := by
  have one : l = [x] → v.cells = #[v] → v.cells.size = l.length ∧ ∀ (j : Nat) (y : V), l[j]? = some y → Rep P E (v.cells.getD j undef) y := by
    intro e1 e2
    subst e1
    rw [e2]
    refine ⟨rfl, fun j y hj => ?_⟩
    cases j with
    | zero => simp at hj; subst hj; exact h
    | succ j => simp at hj
  cases h <;> first
    | (simp [cellsV] at hl; done)
    | (rename_i cs xs hs hx; simp [cellsV] at hl; subst hl; exact ⟨hs, hx⟩)
    | (simp [cellsV] at hl; exact one hl.symm rfl)
theorem fold_get (off : Nat) (vs : Array Value) (cells : Array Value) :
    (vs.zipIdx.foldl (fun (cs : Array Value) (p : Value × Nat) => cs.setIfInBounds (off + p.2) p.1) cells).size = cells.size ∧
    ∀ j, (vs.zipIdx.foldl (fun (cs : Array Value) (p : Value × Nat) => cs.setIfInBounds (off + p.2) p.1) cells)[j]? = if off ≤ j ∧ j < off + vs.size ∧ j < cells.size then vs[j - off]? else cells[j]? := by
  have main : ∀ (us : List Value) (n : Nat) (b : Array Value), ((us.zipIdx n).foldl (fun (cs : Array Value) (p : Value × Nat) => cs.setIfInBounds (off + p.2) p.1) b).size = b.size ∧
      ∀ j, ((us.zipIdx n).foldl (fun (cs : Array Value) (p : Value × Nat) => cs.setIfInBounds (off + p.2) p.1) b)[j]? = if off + n ≤ j ∧ j < off + n + us.length ∧ j < b.size then us[j - (off + n)]? else b[j]? := by
    intro us
    induction us with
    | nil => intro n b; refine ⟨rfl, fun j => ?_⟩; rw [if_neg (by simp; omega)]; rfl
    | cons u us ih =>
      intro n b
      obtain ⟨i1, i2⟩ := ih (n + 1) (b.setIfInBounds (off + n) u)
      refine ⟨by simp only [List.zipIdx_cons, List.foldl_cons]; rw [i1]; simp, fun j => ?_⟩
      simp only [List.zipIdx_cons, List.foldl_cons]
      have hsz : (b.setIfInBounds (off + n) u).size = b.size := by simp
      rw [i2 j, Array.getElem?_setIfInBounds, hsz]
      simp only [List.length_cons]
      by_cases hj : off + n = j
      · subst hj
        rw [if_neg (by omega)]
        by_cases hb : off + n < b.size
        · simp [hb]
        · simp [hb]
      · by_cases hj2 : off + (n + 1) ≤ j ∧ j < off + (n + 1) + us.length ∧ j < b.size
        · rw [if_pos hj2, if_pos (by omega)]
          have : j - (off + n) = (j - (off + (n + 1))) + 1 := by omega
          rw [this, List.getElem?_cons_succ]
        · rw [if_neg hj2, if_neg hj, if_neg (by omega)]
  have e0 : vs.zipIdx.foldl (fun (cs : Array Value) (p : Value × Nat) => cs.setIfInBounds (off + p.2) p.1) cells = (vs.toList.zipIdx 0).foldl (fun (cs : Array Value) (p : Value × Nat) => cs.setIfInBounds (off + p.2) p.1) cells := by
    rw [← Array.foldl_toList, Array.toList_zipIdx]
  rw [e0]
  obtain ⟨m1, m2⟩ := main vs.toList 0 cells
  refine ⟨m1, fun j => ?_⟩
  rw [m2 j]
  simp only [Nat.add_zero, Array.length_toList, Array.getElem?_toList]
theorem fill_one {E : En} {cells : Array Value} {cs : List V} (hs : cells.size = cs.length) (hx : ∀ (j : Nat) (y : V), cs[j]? = some y → Rep P E (cells.getD j undef) y) {vs : Array Value} {c : List V} (hc : vs.size = c.length)
    (hcx : ∀ (j : Nat) (y : V), c[j]? = some y → Rep P E (vs.getD j undef) y) {off : Nat} {l : List V} (hl : setR cs off c = some l) :
    (vs.zipIdx.foldl (fun (cs : Array Value) (p : Value × Nat) => cs.setIfInBounds (off + p.2) p.1) cells).size = l.length ∧
    ∀ (j : Nat) (y : V), l[j]? = some y → Rep P E ((vs.zipIdx.foldl (fun (cs : Array Value) (p : Value × Nat) => cs.setIfInBounds (off + p.2) p.1) cells).getD j undef) y := by
  obtain ⟨h1, h2⟩ := setR_spec hl
  obtain ⟨m1, m2⟩ := fold_get off vs cells
  refine ⟨by rw [m1, h1, hs], fun j y hy => ?_⟩
  rw [Array.getD_eq_getD_getElem?, m2 j]
  rw [h2 j] at hy
  have hjl : j < cs.length := by
    rw [← h1]
    rcases Nat.lt_or_ge j l.length with h | h
    · exact h
    · have : l[j]? = none := List.getElem?_eq_none h
      rw [h2 j] at this
      rw [this] at hy; cases hy
  by_cases hj : off ≤ j ∧ j < off + c.length
  · rw [if_pos hj] at hy
    rw [if_pos ⟨hj.1, by omega, by omega⟩]
    have := hcx _ _ hy
    rw [Array.getD_eq_getD_getElem?] at this
    exact this
  · rw [if_neg hj] at hy
    rw [if_neg (by omega)]
    have := hx _ _ hy
    rw [Array.getD_eq_getD_getElem?] at this
    exact this
theorem fill_run {E : En} {pl : List (Nat × Nat)} : ∀ {parts : List (Nat × Operand)} {f : Operand → Value} {g : Operand → V} {cells : Array Value} {cs l : List V}, (∀ x, Rep P E (f x) (g x)) → cells.size = cs.length → (∀ (j : Nat) (y : V), cs[j]? = some y → Rep P E (cells.getD j undef) y) →
    fillV pl (parts.map fun p => (p.1, g p.2)) cs = some l → ∃ arr, Instr.fill (pl[·]?) cells (parts.map fun p => (p.1, f p.2)) = some arr ∧ arr.size = l.length ∧ ∀ (j : Nat) (y : V), l[j]? = some y → Rep P E (arr.getD j undef) y
  | [], f, g, cells, cs, l, _, hs, hx, h => by
    simp [fillV] at h; subst h
    exact ⟨cells, by simp [Instr.fill], hs, hx⟩
  | (i, x) :: parts, f, g, cells, cs, l, hf, hs, hx, h => by
    simp only [List.map_cons, fillV] at h
    rw [Option.bind_eq_some_iff] at h
    obtain ⟨p, hp, h⟩ := h
    rw [Option.bind_eq_some_iff] at h
    obtain ⟨c, hc, h⟩ := h
    rw [cond_eq_ite] at h
    split at h
    · rename_i hb
      rw [Bool.and_eq_true] at hb
      have hb' := Nat.eq_of_beq_eq_true hb.1
      have hb2 := Nat.le_of_ble_eq_true hb.2
      rw [Option.bind_eq_some_iff] at h
      obtain ⟨cs', hset, h⟩ := h
      obtain ⟨c1, c2⟩ := rep_cells (hf x) hc
      obtain ⟨o1, o2⟩ := fill_one hs hx c1 c2 hset
      obtain ⟨arr, a1, a2, a3⟩ := fill_run hf o1 o2 h
      refine ⟨arr, ?_, a2, a3⟩
      simp only [List.map_cons, Instr.fill, hp]
      rw [if_neg]
      · exact a1
      · simp only [Bool.or_eq_true, decide_eq_true_eq, not_or]
        omega
    · cases h
theorem rep_zero {E : En} (v : Value) : v.cells.size = (ofCs v).length ∧ ∀ (j : Nat) (y : V), (ofCs v)[j]? = some y → Rep P E (v.cells.getD j undef) y := by
  unfold ofCs
  split
  · rename_i cs
    refine ⟨by simp [Value.cells], fun j y hj => ?_⟩
    rw [List.getElem?_map, Option.map_eq_some_iff] at hj
    obtain ⟨u, hu, rfl⟩ := hj
    rw [Array.getElem?_toList] at hu
    have : (Value.agg cs).cells.getD j undef = u := by
      show cs.getD j undef = u
      simp [Array.getD_eq_getD_getElem?, hu]
    rw [this]; exact rep_ofC1 u
  · rename_i hv
    have hc : v.cells = #[v] := by
      cases v <;> first | rfl | exact absurd rfl (hv _)
    rw [hc]
    refine ⟨rfl, fun j y hj => ?_⟩
    cases j with
    | zero => simp at hj; subst hj; exact rep_ofC1 v
    | succ j => simp at hj
theorem zeroV_info {t : Nat} {z : List V} (h : zeroV P t = some z) : ∃ i v, P.info? t = some i ∧ i.zero = some v ∧ z = ofCs v := by
  unfold zeroV at h
  rw [Option.map_eq_some_iff] at h
  obtain ⟨v, hv, rfl⟩ := h
  rw [Option.bind_eq_some_iff] at hv
  obtain ⟨i, hi, hz⟩ := hv
  exact ⟨i, v, hi, hz, rfl⟩
theorem rep_bool_inv {E : En} {v : Value} {b : Bool} (h : Rep P E v (.bool b)) : v = .bool b := by cases h; rfl
theorem rep_int_inv {E : En} {v : Value} {k : IntKind} {n : Int} (h : Rep P E v (.int k n)) : v = .int k n := by cases h; rfl
theorem rep_str_inv {E : En} {v : Value} {s : ByteArray} (h : Rep P E v (.str s)) : v = .string s := by cases h; rfl
theorem rep_nils_inv {E : En} {v : Value} (h : Rep P E v .nils) : v = .slice none 0 0 := by cases h; rfl
theorem rep_slice_inv {E : En} {v : Value} {t : Nat} {es : Rows} {k : K} (h : Rep P E v (.slice t es k)) : ∃ a cap sz, v = .slice a es.length cap ∧ es.length ≤ cap ∧ sizeT P t = some sz := by
  cases h with
  | slice t es k a cap sz vs hcap hnone hsz => exact ⟨a, cap, sz, rfl, hcap, hsz⟩
theorem rep_optr_inv {E : En} {v : Value} {n off : Nat} (h : Rep P E v (.optr n off)) : ∃ b, v = .pointer (some ⟨b, off, none⟩) ∧ E.N n = .blk b ∧ ∃ cs, E.hs.getD n none = some (.box cs) := by
  cases h with
  | optr n off b hb hh => exact ⟨b, rfl, hb, hh⟩
theorem rep_sref_inv {E : En} {v : Value} {t n len : Nat} (h : Rep P E v (.sref t n len)) : ∃ b, v = .slice (some ⟨b, 0, none⟩) len len ∧ E.N n = .blk b ∧ ∃ cs, E.hs.getD n none = some (.box cs) := by
  cases h with
  | sref t n len b hb hh => exact ⟨b, rfl, hb, hh⟩
theorem rep_rptr_inv {E : En} {v : Value} {cs : List V} (h : Rep P E v (.rptr cs)) : ∃ A, v = .pointer (some A) := by
  cases h with
  | rptr A => exact ⟨A, rfl⟩
theorem litN_spec {n : Int} {m : Nat} (h : litN n = some m) : n = m := by
  cases n with
  | ofNat k => simp [litN] at h; subst h; rfl
  | negSucc k => simp [litN] at h
theorem fieldT_spec {t f : Nat} {p : Nat × Nat} (h : fieldT P t f = some p) : ∃ (fs : Array Field) (x : Field) (n : Nat), P.underlying t = some (.struct fs) ∧ fs[f]? = some x ∧ p = (x.offset, x.type) ∧ sizeT P x.type = some n ∧ 0 < n := by
  unfold fieldT at h
  split at h
  · rename_i fs h1
    rw [Option.bind_eq_some_iff] at h
    obtain ⟨x, hx, h⟩ := h
    rw [Option.bind_eq_some_iff] at h
    obtain ⟨n, hn, h⟩ := h
    rw [cond_eq_ite] at h
    split at h
    · rename_i hb
      injection h with h
      refine ⟨fs, x, n, h1, hx, h.symm, hn, ?_⟩
      cases n with
      | zero => cases hb
      | succ n => omega
    · cases h
  · cases h
theorem run_eqC {E : En} {t : Nat} {x y : V} {v w : Value} {b : Bool} (h : eqC P t x y = some b) (hx : Rep P E v x) (hy : Rep P E w y) (d : Nat) (W : World) : (Op.equalIn (d + 1) t v w).run P W = .ok b W := by
  unfold eqC at h
  split at h
  · rw [rep_bool_inv hx, rep_bool_inv hy]
    split at h
    · rename_i hu; injection h with h; subst h; exact run_equalIn_bool' W d t _ _ hu
    · cases h
  · rw [rep_int_inv hx, rep_int_inv hy]
    split at h
    · rename_i hu
      rw [cond_eq_ite] at h
      split at h
      · rename_i hk
        have hk' := eq_of_beq hk
        subst hk'
        injection h with h; subst h; exact run_equalIn_int W d t _ _ _ _ hu
      · cases h
    · cases h
  · rw [rep_str_inv hx, rep_str_inv hy]
    split at h
    · rename_i hu; injection h with h; subst h; exact run_equalIn_string W d t _ _ hu
    · cases h
  · cases h
theorem run_part_cell {E : En} {t off : Nat} {cs : Array Value} {xs : List V} {x : V} (hu : ∃ d, P.underlying t = some d ∧ (d = .bool ∨ (∃ k, d = .int k) ∨ d = .string)) (hl : cs.size = xs.length)
    (h : ∀ (i : Nat) (x : V), xs[i]? = some x → Rep P E (cs.getD i undef) x) (hx : xs[off]? = some x) (W : World) : (part t cs off).run P W = .ok (cs.getD off undef) W := by
  have hlt : off < cs.size := by
    rw [hl]
    rcases Nat.lt_or_ge off xs.length with h | h
    · exact h
    · rw [List.getElem?_eq_none h] at hx; cases hx
  have e : cs.getD off undef = cs[off] := by simp [Array.getD_eq_getD_getElem?, hlt]
  obtain ⟨d, hd, hor⟩ := hu
  rw [e]
  rcases hor with rfl | ⟨k, rfl⟩ | rfl <;> simp [part, isAgg, underlying, hd, hlt]
theorem run_eqF {E : En} {f : Field} {xs ys : List V} {cs ds : Array Value} {b : Bool} (h : eqF P xs ys f = some b) (hx : Rep P E (.agg cs) (.agg xs)) (hy : Rep P E (.agg ds) (.agg ys)) (d : Nat) (W : World) :
    (f.name == "_") = false ∧ ∃ u v, (part f.type cs f.offset).run P W = .ok u W ∧ (part f.type ds f.offset).run P W = .ok v W ∧ (Op.equalIn (d + 1) f.type u v).run P W = .ok b W := by
  unfold eqF at h
  rw [cond_eq_ite] at h
  split at h
  · cases h
  · rename_i hn
    refine ⟨by simpa using hn, ?_⟩
    have hu : (∃ dd, P.underlying f.type = some dd ∧ (dd = .bool ∨ (∃ k, dd = .int k) ∨ dd = .string)) ∧ ((xs[f.offset]?).bind fun a => (ys[f.offset]?).bind fun b => eqC P f.type a b) = some b := by
      split at h
      · rename_i hu; exact ⟨⟨_, hu, Or.inl rfl⟩, h⟩
      · rename_i hu; exact ⟨⟨_, hu, Or.inr (Or.inl ⟨_, rfl⟩)⟩, h⟩
      · rename_i hu; exact ⟨⟨_, hu, Or.inr (Or.inr rfl)⟩, h⟩
      · cases h
    obtain ⟨hu, h⟩ := hu
    rw [Option.bind_eq_some_iff] at h
    obtain ⟨x, hx1, h⟩ := h
    rw [Option.bind_eq_some_iff] at h
    obtain ⟨y, hy1, h⟩ := h
    cases hx with
    | agg _ _ l1 r1 => cases hy with
      | agg _ _ l2 r2 =>
        exact ⟨_, _, run_part_cell hu l1 r1 hx1 W, run_part_cell hu l2 r2 hy1 W, run_eqC h (r1 _ _ hx1) (r2 _ _ hy1) d W⟩
theorem run_eqFs {E : En} {xs ys : List V} {cs ds : Array Value} (hx : Rep P E (.agg cs) (.agg xs)) (hy : Rep P E (.agg ds) (.agg ys)) (d : Nat) (W : World) :
    ∀ {fs : List Field} {b : Bool}, eqFs P xs ys fs = some b → (Op.eqFields (d + 1) cs ds fs).run P W = .ok b W
  | [], _, h => by cases h
  | [f], b, h => by
    obtain ⟨hn, u, v, h1, h2, h3⟩ := run_eqF h hx hy d W
    have hn' : f.name ≠ "_" := by simpa using hn
    simp only [Op.eqFields, if_pos hn', Sem.run_bind, h1, h2, h3, Result.andThen_ok]
    cases b <;> simp
  | f :: g :: fs, b, h => by
    unfold eqFs at h
    rw [Option.bind_eq_some_iff] at h
    obtain ⟨r, hr, h⟩ := h
    rw [Option.map_eq_some_iff] at h
    obtain ⟨s, hs, rfl⟩ := h
    obtain ⟨hn, u, v, h1, h2, h3⟩ := run_eqF hr hx hy d W
    have hn' : f.name ≠ "_" := by simpa using hn
    rw [Op.eqFields]
    simp only [if_pos hn', Sem.run_bind, h1, h2, h3, Result.andThen_ok]
    cases r
    · simp [bAnd]
    · simpa [bAnd] using run_eqFs hx hy d W hs
theorem run_eqV {E : En} {t : Nat} {x y : V} {v w : Value} {b : Bool} (h : eqV P t x y = some b) (hx : Rep P E v x) (hy : Rep P E w y) (op : BinOp) (a c : Operand) (W : World) :
    (Op.equal t v w).run P W = .ok b W ∧ (eqGuard op t a c v w).run P W = .ok () W := by
  unfold eqV at h
  split at h
  · split at h
    · rename_i xs ys fs hu
      rw [cond_eq_ite] at h
      split at h
      · cases h
      · rename_i hc
        simp only [Bool.or_eq_true, not_or, Bool.not_eq_true] at hc
        cases hx with
        | agg cs _ l1 r1 => cases hy with
          | agg ds _ l2 r2 =>
            refine ⟨?_, ?_⟩
            · have hf : P.fieldsOf t = fs := by simp [Program.fieldsOf, hu]
              show (Op.equalIn (9999 + 1) t _ _).run P W = _
              rw [run_equalIn_struct (P := P) W 9999 t cs ds (by rw [hf]; exact hu) hc.1, hf]
              exact run_eqFs (.agg cs _ l1 r1) (.agg ds _ l2 r2) 9998 W h
            · cases op <;> simp [eqGuard, hc.2]
    · cases h
  · refine ⟨run_eqC h hx hy 9999 W, ?_⟩
    unfold eqC at h
    split at h
    · rw [rep_bool_inv hx, rep_bool_inv hy]; cases op <;> simp [eqGuard]
    · rw [rep_int_inv hx, rep_int_inv hy]; cases op <;> simp [eqGuard]
    · rw [rep_str_inv hx, rep_str_inv hy]; cases op <;> simp [eqGuard]
    · cases h

/-- A cell as others hold it stands for the same value. -/
theorem rep_norm1 {E : En} {t : Nat} {v : Value} {x y : V} (h : Rep P E v x) (hn : norm1 P t x = some y) : Rep P E v y := by
  unfold norm1 at hn
  split at hn
  · injection hn with hn; subst hn; exact h
  · rw [cond_eq_ite] at hn
    split at hn
    · rename_i hk
      have hk' := eq_of_beq hk
      subst hk'
      injection hn with hn; subst hn; exact h
    · cases hn
  · injection hn with hn; subst hn; exact h
  · rw [Option.map_eq_some_iff] at hn
    obtain ⟨sz, hs, rfl⟩ := hn
    rw [rep_nils_inv h]
    exact .slice _ [] .open none 0 sz (fun _ => undef) (Nat.le_refl _) (fun _ => rfl) hs (fun i r hi => by simp at hi) (fun i r j x hi => by simp at hi) (fun i r j x hi => by simp at hi) trivial
  · rw [cond_eq_ite] at hn
    split at hn
    · rename_i hk
      have hk' := Nat.eq_of_beq_eq_true hk
      subst hk'
      injection hn with hn; subst hn
      cases h with
      | slice t es k a cap sz vs hcap hnone hsz hrow hc hx hk => exact .slice _ _ .open a cap sz vs hcap hnone hsz hrow hc hx trivial
    · cases hn
  all_goals first | (cases hn; done) | (injection hn with hn; subst hn; exact .dead _)
theorem eta_norm1 {t : Nat} {x y : V} (hn : norm1 P t x = some y) {r : Row} {j : Nat} (hr : r[j]? = some y) : etaC P r j t = y := by
  unfold norm1 at hn
  split at hn
  · rename_i hu; injection hn with hn; subst hn; simp [etaC, hu, rBool, hr]
  · rename_i hu
    rw [cond_eq_ite] at hn
    split at hn
    · injection hn with hn; subst hn; simp [etaC, hu, rInt, hr]
    · cases hn
  · rename_i hu; injection hn with hn; subst hn; simp [etaC, hu, rStr, hr]
  · rename_i hu
    rw [Option.map_eq_some_iff] at hn
    obtain ⟨sz, hs, rfl⟩ := hn
    simp [etaC, hu, rSl, hr]
  · rename_i hu
    rw [cond_eq_ite] at hn
    split at hn
    · injection hn with hn; subst hn; simp [etaC, hu, rSl, hr]
    · cases hn
  all_goals first | (cases hn; done) | skip
  rename_i n0 n1 n2 n3 n4 n5 n6 n7 n8
  injection hn with hn; subst hn
  unfold etaC
  split
  · rename_i hu; exact (n0 hu).elim
  · rename_i hu; exact (n1 _ hu).elim
  · rename_i hu; exact (n2 hu).elim
  · rename_i hu; exact (n3 _ hu).elim
  · rfl
theorem kfull_ok {E : En} {a : Option Addr} {len cap sz : Nat} {k : K} (h : KOk E a len cap sz k) : KOk E a len cap sz (.fullq (kFull k)) := by
  intro e
  cases k with
  | full => exact h
  | fullq b => exact h e
  | _ => cases e
/-- An element that is a slice, as others hold it. -/
theorem rep_normE {E : En} {t : Nat} {v : Value} {x y : V} (h : Rep P E v x) (hn : normE P t x = some y) : Rep P E v y := by
  unfold normE at hn
  split at hn
  · rw [Option.map_eq_some_iff] at hn
    obtain ⟨sz, hs, rfl⟩ := hn
    rw [rep_nils_inv h]
    exact .slice _ [] _ none 0 sz (fun _ => undef) (Nat.le_refl _) (fun _ => rfl) hs (fun i r hi => by simp at hi) (fun i r j x hi => by simp at hi) (fun i r j x hi => by simp at hi) (fun _ => rfl)
  · rw [cond_eq_ite] at hn
    split at hn
    · rename_i hk
      have hk' := Nat.eq_of_beq_eq_true hk
      subst hk'
      injection hn with hn; subst hn
      cases h with
      | slice t es k a cap sz vs hcap hnone hsz hrow hc hx hk => exact .slice _ _ _ a cap sz vs hcap hnone hsz hrow hc hx (kfull_ok hk)
    · cases hn
  · cases hn
theorem eta_normE {t : Nat} {x y : V} (hn : normE P t x = some y) {r : Row} {j : Nat} (hr : r[j]? = some y) : etaE P r j t = y := by
  unfold normE at hn
  split at hn
  · rename_i hu
    rw [Option.map_eq_some_iff] at hn
    obtain ⟨sz, hs, rfl⟩ := hn
    simp [etaE, hu, rSl, rFull, hr, kFull]
  · rename_i hu
    rw [cond_eq_ite] at hn
    split at hn
    · injection hn with hn; subst hn; simp [etaE, hu, rSl, rFull, hr, kFull]
    · cases hn
  · cases hn
theorem rep_normX {E : En} {t : Nat} {v : Value} {x y : V} (h : Rep P E v x) (hn : normX P t x = some y) : Rep P E v y := by
  unfold normX at hn
  split at hn
  · exact rep_normE h hn
  · exact rep_norm1 h hn
theorem eta_normX {t : Nat} {x y : V} (hn : normX P t x = some y) {r : Row} {j : Nat} (hr : r[j]? = some y) : etaX P r j t = y := by
  unfold normX at hn
  unfold etaX
  split at hn
  · exact eta_normE hn hr
  · exact eta_norm1 hn hr
theorem normL_spec {E : En} : ∀ {ts : List Nat} {xs ys : List V}, normL P ts xs = some ys → ys.length = ts.length ∧ xs.length = ts.length ∧ (∀ (r : Row) (k : Nat), (∀ j y, ys[j]? = some y → r[k + j]? = some y) → etaL P r k ts = ys) ∧
    ∀ (vs : Nat → Value), (∀ j x, xs[j]? = some x → Rep P E (vs j) x) → ∀ j y, ys[j]? = some y → Rep P E (vs j) y
  | [], [], ys, h => by
    simp [normL] at h; subst h
    exact ⟨rfl, rfl, fun r k _ => rfl, fun vs _ j y hj => by simp at hj⟩
  | t :: ts, x :: xs, ys, h => by
    simp only [normL] at h
    rw [Option.bind_eq_some_iff] at h
    obtain ⟨y, hy, h⟩ := h
    rw [Option.map_eq_some_iff] at h
    obtain ⟨l, hl, rfl⟩ := h
    obtain ⟨h1, h2, h3, h4⟩ := normL_spec (E := E) hl
    refine ⟨by simp [h1], by simp [h2], fun r k hr => ?_, fun vs hv j z hj => ?_⟩
    · simp only [etaL]
      rw [eta_normX hy (r := r) (j := k) (hr 0 y rfl), h3 r (k + 1) (fun j z hj => ?_)]
      have := hr (j + 1) z (by simpa using hj)
      have e : k + 1 + j = k + (j + 1) := by omega
      rw [e]; exact this
    · cases j with
      | zero => simp at hj; subst hj; exact rep_normX (hv 0 x rfl) hy
      | succ j => exact h4 (fun k => vs (k + 1)) (fun k z hk => hv (k + 1) z (by simpa using hk)) j z (by simpa using hj)
  | [], _ :: _, _, h => by simp [normL] at h
  | _ :: _, [], _, h => by simp [normL] at h
theorem normL_eta {t : Nat} {xs ys : List V} (h : normL P (ctsOf P t) xs = some ys) : eta P t ys = ys ∧ ys.length = (ctsOf P t).length := by
  obtain ⟨h1, _, h3, _⟩ := normL_spec (P := P) (E := ⟨default, fun _ _ => False, fun _ => .blk 0, []⟩) h
  exact ⟨h3 ys 0 (fun j y hj => by rw [Nat.zero_add]; exact hj), h1⟩
end Go.Proofs.YtolackmpfnndhaaGreatDoor.Ev
