/- Maps: what a look into one and a change of one come to. Conditions: stated at each. -/
import Derived.Test.YtolackmpfnndhaaGreatDoorSnd
import Derived.MapKept
namespace Go.Proofs.YtolackmpfnndhaaGreatDoor.Ev
open Go Go.RowKit
set_option linter.unusedVariables false
set_option linter.unusedSimpArgs false
variable {P : Program}
theorem sEq_bytes (s t : ByteArray) : (s == t) = sEq t s := by
  unfold sEq
  rw [Bool.eq_iff_iff, MapKept.bytes_beq]
  simp only [beq_iff_eq, ByteArray.toList_eq]
  constructor
  · rintro rfl; rfl
  · intro h
    exact ByteArray.ext (Array.toList_inj.1 h.symm)
theorem mapE_spec {t e : Nat} (h : mapE P t = some e) : ∃ k sz, P.underlying t = some (.map k e) ∧ P.underlying k = some .string ∧ sizeT P e = some sz ∧ (ctsOf P e).length = sz ∧ 0 < sz ∧ ctsOk P e = true ∧ isAggT P e = aggZ P e ∧ (P.underlying e).isSome = true := by
  unfold mapE at h
  split at h
  · rename_i k e' hu
    split at h
    · rename_i hk
      cases hs : sizeT P e' with
      | none => rw [hs] at h; simp at h
      | some sz =>
        rw [hs] at h
        simp only [] at h
        rw [cond_eq_ite] at h
        split at h
        · rename_i hc
          injection h with h; subst h
          simp only [Bool.and_eq_true, beq_iff_eq] at hc
          obtain ⟨⟨⟨⟨hc, hp⟩, hck⟩, hz⟩, hso⟩ := hc
          exact ⟨k, sz, hu, hk, hs, Nat.eq_of_beq_eq_true hc, by simpa [Nat.blt_eq] using hp, hck, hz, hso⟩
        · cases h
    · cases h
  · cases h
theorem getQ_obj {hs : List (Option Blk)} {n : Nat} {p : Nat × Rows} (h : getQ hs n = some p) : hs.getD n none = some (.obj (.mp p.1 p.2)) := by
  unfold getQ at h
  split at h
  · rename_i t es h1; injection h with h; rw [h1, ← h]
  · cases h
theorem rep_mref_inv {E : En} {v : Value} {n : Nat} (h : Rep P E v (.mref n)) : ∃ b, v = .map (some b) ∧ E.N n = .blk b ∧ ∃ q, E.hs.getD n none = some (.obj q) := by
  cases h with
  | mref n b hb hh => exact ⟨b, rfl, hb, hh⟩
theorem rep_it_inv {E : En} {v : Value} {n m : Nat} (h : Rep P E v (.it n m)) : ∃ b, v = .pointer (some ⟨b, 0, none⟩) ∧ E.N n = .blk b ∧ ∃ q, E.hs.getD n none = some (.obj q) := by
  cases h with
  | it n m b hb hh => exact ⟨b, rfl, hb, hh⟩
theorem getI_obj {hs : List (Option Blk)} {n : Nat} {p : Nat × Int × List Nat} (h : getI hs n = some p) : hs.getD n none = some (.obj (.it p.1 p.2.1 p.2.2)) := by
  unfold getI at h
  split at h
  · rename_i m k seen h1; injection h with h; rw [h1, ← h]
  · cases h
theorem rStr_cons (s : ByteArray) (l : Row) : rStr (.str s :: l) 0 = s := rfl
/-- The entries beside their rows. -/
def Ents (P : Program) (E : En) (e : Nat) (l : List MapEntry) (es : Rows) (i0 : Nat) : Prop :=
  l.length = es.length ∧ ∀ (i : Nat) (r : Row), es[i]? = some r → ∃ x, l[i]? = some x ∧ EntOk P E e x (i0 + i) r
theorem Ents.tail {E : En} {e : Nat} {x : MapEntry} {l : List MapEntry} {r : Row} {es : Rows} {i0 : Nat} (h : Ents P E e (x :: l) (r :: es) i0) : EntOk P E e x i0 r ∧ Ents P E e l es (i0 + 1) := by
  obtain ⟨h1, h2⟩ := h
  refine ⟨?_, by simpa using h1, fun i q hi => ?_⟩
  · obtain ⟨y, h3, h4⟩ := h2 0 r rfl
    simp at h3; subst h3; exact h4
  · obtain ⟨y, h3, h4⟩ := h2 (i + 1) q (by simpa using hi)
    exact ⟨y, by simpa using h3, by rw [Nat.add_assoc, Nat.add_comm 1 i]; exact h4⟩
theorem findNow_rows {E : En} {e : Nat} (s : ByteArray) : ∀ {l : List MapEntry} {es : Rows} {i0 i : Nat}, Ents P E e l es i0 →
    (es.findIdx? (fun r => sEq (rStr r 0) s) = none ∧ Instr.findNow .string (.string s) l i = some none) ∨
    ∃ j x r, es.findIdx? (fun r => sEq (rStr r 0) s) = some j ∧ l[j]? = some x ∧ es[j]? = some r ∧ es.find? (fun r => sEq (rStr r 0) s) = some r ∧ x.key = .string s ∧ EntOk P E e x (i0 + j) r ∧ Instr.findNow .string (.string s) l i = some (some (i + j, x.val))
  | [], [], _, _, _ => Or.inl ⟨rfl, rfl⟩
  | x :: l, [], _, _, h => by have := h.1; simp at this
  | [], r :: es, _, _, h => by have := h.1; simp at this
  | x :: l, r :: es, i0, i, h => by
    obtain ⟨h1, h2⟩ := h.tail
    have h1' := h1
    obtain ⟨s', cs, v, rfl, _, _, hk, _, _⟩ := h1
    have hnow : Instr.findNow .string (.string s) (x :: l) i = if sEq s' s then some (some (i, x.val)) else Instr.findNow .string (.string s) l (i + 1) := by
      show (match Instr.sameNow .string (.string s) x.key with | some true => _ | some false => _ | none => _) = _
      rw [hk]
      show (match some (s == s') with | some true => _ | some false => _ | none => _) = _
      rw [sEq_bytes]
      cases sEq s' s <;> rfl
    rw [hnow, List.findIdx?_cons, rStr_cons]
    cases hq : sEq s' s with
    | true =>
      refine Or.inr ⟨0, x, _, by simp, rfl, rfl, by rw [List.find?_cons, rStr_cons, hq], ?_, h1', by simp⟩
      rw [hk]
      have : (s == s') = true := by rw [sEq_bytes]; exact hq
      rw [(MapKept.bytes_beq s s').1 this]
    | false =>
      rcases findNow_rows s (i := i + 1) h2 with ⟨g1, g2⟩ | ⟨j, y, q, g1, g2, g3, g4, g5, g6, g7⟩
      · exact Or.inl ⟨by simp [g1], by simpa using g2⟩
      · refine Or.inr ⟨j + 1, y, q, by simp [g1], by simpa using g2, by simpa using g3, by rw [List.find?_cons, rStr_cons, hq]; exact g4, g5, by rw [show i0 + (j + 1) = i0 + 1 + j by omega]; exact g6, ?_⟩
        have e : i + (j + 1) = i + 1 + j := by omega
        rw [e]; simpa using g7
theorem findIdx_any (s : ByteArray) : ∀ (es : Rows), mHas es s = (es.findIdx? (fun r => sEq (rStr r 0) s)).isSome := by
  intro es
  unfold mHas
  rw [Bool.eq_iff_iff, List.findIdx?_isSome]
theorem run_checkStr {w : World} {k : Nat} (hk : P.underlying k = some .string) (e : Bool) (s : ByteArray) : (Instr.checkKey e 10000 k (.string s)).run P w = .ok () w := by
  show (Instr.checkKey e (9999 + 1) k (.string s)).run P w = _
  unfold Instr.checkKey
  simp [run_underlying hk, Result.andThen]
theorem run_findStr {w : World} {k : Nat} (hk : P.underlying k = some .string) {s : ByteArray} {l : List MapEntry} {a : Option (Nat × Value)} (h : Instr.findNow .string (.string s) l 0 = some a) : (Instr.findKey k (.string s) l).run P w = .ok a w := by
  simp [Instr.findKey, run_underlying hk, Result.andThen, h]
theorem isAggT_spec {e : Nat} {z : List V} {x : V} {sz : Nat} (hs : sizeT P e = some sz) (hl : z.length = sz) (hp : 0 < sz) (h : loadV P e z 0 = some x) : (isAggT P e = true ∧ x = .agg z) ∨ (isAggT P e = false ∧ z[0]? = some x) := by
  have key : ∀ n, n = z.length → getR z 0 n = some z := by
    intro n hn
    subst hn
    clear hl h
    induction z with
    | nil => rfl
    | cons c z ih => simp only [List.length_cons, getR, ih, Option.map_some]
  unfold loadV at h
  unfold isAggT
  split at h
  · cases h
  · rename_i fs hu
    rw [hs] at h
    simp [key sz hl.symm] at h
    rw [hu]; exact Or.inl ⟨rfl, h.symm⟩
  · rename_i n el hu
    rw [hs] at h
    simp [key sz hl.symm] at h
    rw [hu]; exact Or.inl ⟨rfl, h.symm⟩
  · rename_i d n1 n2 hu
    rw [hu]
    refine Or.inr ⟨?_, by simpa using h⟩
    cases d <;> first | rfl | exact absurd rfl (n1 _) | exact absurd rfl (n2 _ _)
/-- A value that a type's zero is, read as a cell or as cells. -/
theorem zero_load {E : En} {e sz : Nat} {z0 z : List V} {x : V} (hz : zeroV P e = some z0) (hn : normL P (ctsOf P e) z0 = some z) (hs : sizeT P e = some sz) (hl : (ctsOf P e).length = sz) (hp : 0 < sz) (ha : isAggT P e = aggZ P e) (hx : loadV P e (eta P e z) 0 = some x) :
    ∃ v, (∀ w, (zeroValue e).run P w = .ok v w) ∧ Rep P E v x := by
  obtain ⟨i, zv, hi, hzv, rfl⟩ := zeroV_info hz
  obtain ⟨z1, z2⟩ := rep_zero (P := P) (E := E) zv
  obtain ⟨n1, n2, n3, n4⟩ := normL_spec (P := P) (E := E) hn
  obtain ⟨n5, n6⟩ := normL_eta hn
  rw [n5] at hx
  have hr := n4 (fun j => zv.cells.getD j undef) z2
  refine ⟨zv, fun w => by simp [zeroValue, typeInfo, hi, hzv], ?_⟩
  have hag : aggZ P e = true ↔ ∃ cs, zv = .agg cs := by
    unfold aggZ
    rw [hi]; simp only [Option.bind_some, hzv]
    cases zv <;> simp
  rcases isAggT_spec hs (by rw [n6, hl]) hp hx with ⟨h1, rfl⟩ | ⟨h1, h2⟩
  · rw [ha] at h1
    obtain ⟨cs, rfl⟩ := hag.1 h1
    exact .agg cs z (by show (Value.agg cs).cells.size = _; rw [z1, n2, n6]) (fun j y hj => hr j y hj)
  · rw [ha] at h1
    have : zv.cells = #[zv] := by
      cases zv <;> first | rfl | (exfalso; rw [hag.2 ⟨_, rfl⟩] at h1; cases h1)
    have := hr 0 x h2
    simpa [‹zv.cells = #[zv]›] using this
theorem getLast_back (l : List Nat) : l.toArray.back? = l.getLast? := by simp
theorem find_born_at {P : Program} {E : En} {e : Nat} : ∀ {l : List MapEntry} {es : Rows} {i0 : Nat}, Ents P E e l es i0 → ∀ (j : Nat) (x : MapEntry), l[j]? = some x → l.find? (·.born == i0 + j) = some x
  | [], [], _, _, j, x, h => by simp at h
  | y :: l, [], _, h, _, _, _ => by have := h.1; simp at this
  | [], r :: es, _, h, _, _, _ => by have := h.1; simp at this
  | y :: l, r :: es, i0, h, j, x, hj => by
    obtain ⟨h1, h2⟩ := h.tail
    obtain ⟨s', cs, v, _, _, _, _, hb, _⟩ := h1
    rw [List.find?_cons]
    cases j with
    | zero =>
      simp at hj; subst hj
      rw [hb]; simp
    | succ j =>
      have : (y.born == i0 + (j + 1)) = false := by rw [hb]; simp
      rw [this]
      have := find_born_at h2 j x (by simpa using hj)
      rw [show i0 + (j + 1) = i0 + 1 + j by omega]; exact this
/-- The entry that a walk over a map has handed out. -/
theorem entry_sound {w0 : World} {F0 : Fz} {E : En} (hI : Inv P w0 F0 E) {d m e : Nat} {v : Value} {n : Int} {seen : List Nat} {p : Nat × Rows} {x : V} (hv : Rep P E v (.it d m)) (hi : getI E.hs d = some (m, n, seen)) (hq : getQ E.hs m = some p) (hm : mapE P p.1 = some e)
    (hn : n = rLen p.2) (hin : iIn (lastI seen) (rLen p.2) = true) (hx : loadV P e (eta P e ((rAt p.2 (lastI seen)).drop 1)) 0 = some x) :
    ∃ u, (Instr.entry v).run P E.w = .ok (.tuple #[.string (rStr (rAt p.2 (lastI seen)) 0), u]) E.w ∧ Rep P E u x := by
  obtain ⟨b, rfl, hb, _⟩ := rep_it_inv hv
  obtain ⟨b', o, h1, h2, h3, ⟨mb, g1, _, rfl⟩, h5⟩ := hI.obj d _ (getI_obj hi)
  rw [hb] at h1; injection h1 with h1; subst h1
  obtain ⟨b2, o2, k1, k2, k3, ⟨e', arr, q1, rfl, q3, q4⟩, k5⟩ := hI.obj m _ (getQ_obj hq)
  rw [g1] at k1; injection k1 with k1; subst k1
  rw [hm] at q1; injection q1 with q1; subst q1
  have hin' : 0 ≤ lastI seen ∧ lastI seen < (p.2.length : Int) := of_decide_eq_true hin
  have hlast : ∃ j, seen.getLast? = some j ∧ lastI seen = (j : Int) := by
    cases hl : seen.getLast? with
    | none =>
      exfalso
      have : lastI seen = -1 := by unfold lastI; rw [hl]
      omega
    | some j => exact ⟨j, rfl, by unfold lastI; rw [hl]⟩
  obtain ⟨j, hj, hje⟩ := hlast
  have hjl : j < p.2.length := by omega
  have hr : p.2[j]? = some p.2[j] := List.getElem?_eq_getElem hjl
  obtain ⟨y, hy, s, cs, u, e1, e2, e3, e4, e5, e6⟩ := q4 j _ hr
  have hrow : rAt p.2 (lastI seen) = .str s :: cs := by rw [hje]; simp [rAt, hr, ← e1]
  have hE : Ents P E e arr.toList p.2 0 := ⟨by simpa using q3, fun i r hi => by obtain ⟨y, w1, w2⟩ := q4 i r hi; exact ⟨y, by simpa using w1, by simpa using w2⟩⟩
  have hf : arr.find? (·.born == j) = some y := by
    rw [← Array.find?_toList]
    have := find_born_at hE j y (by simpa using hy)
    simpa using this
  refine ⟨y.val, ?_, ?_⟩
  · have hback : seen.toArray.back? = some j := by rw [getLast_back]; exact hj
    have hclk : (p.2.length != n.toNat) = false := by rw [hn]; simp [rLen]
    simp only [Instr.entry, getObj, Sem.run_bind, Sem.run, h3, k3, Result.andThen, hback, hclk, Bool.false_eq_true, if_false, hf, hrow, rStr_cons, e4]
    rfl
  · rw [hrow] at hx
    simp only [List.drop_succ_cons, List.drop_zero] at hx
    rw [e2, e3] at hx
    injection hx with hx; subst hx
    exact e6
/-- A look into a map. -/
theorem lookup_sound {w0 : World} {F0 : Fz} {E : En} (hI : Inv P w0 F0 E) {t e n : Nat} {v : Value} {s : ByteArray} {p : Nat × Rows} {z0 z : List V} {x : V} (hm : mapE P t = some e) (hv : Rep P E v (.mref n)) (hq : getQ E.hs n = some p) (ht : p.1 = t)
    (hz : zeroV P e = some z0) (hn : normL P (ctsOf P e) z0 = some z) (hx : loadV P e (eta P e (mGet p.2 s z)) 0 = some x) (ok : Bool) :
    ∃ u, (Instr.lookup t v (.string s) ok).run P E.w = .ok (bif ok then .tuple #[u, .bool (mHas p.2 s)] else u) E.w ∧ Rep P E u x := by
  obtain ⟨k, sz, hu, hk, hs, hl, hp, hck, ha, _⟩ := mapE_spec hm
  obtain ⟨b, rfl, hb, _⟩ := rep_mref_inv hv
  obtain ⟨b', o, h1, h2, h3, h4, h5⟩ := hI.obj n _ (getQ_obj hq)
  rw [hb] at h1; injection h1 with h1; subst h1
  obtain ⟨e', arr, g1, rfl, g3, g4⟩ := h4
  rw [ht] at g1
  rw [hm] at g1; injection g1 with g1; subst g1
  have hE : Ents P E e arr.toList p.2 0 := ⟨by simpa using g3, fun i r hi => by obtain ⟨y, q1, q2⟩ := g4 i r hi; exact ⟨y, by simpa using q1, by simpa using q2⟩⟩
  rcases findNow_rows s (i := 0) hE with ⟨q1, q2⟩ | ⟨j, y, r, q1, q2, q3, q4, q5, q6, q7⟩
  · have hg : mGet p.2 s z = z := by
      unfold mGet
      have : p.2.find? (fun r => sEq (rStr r 0) s) = none := by
        rw [List.find?_eq_none]
        rw [List.findIdx?_eq_none_iff] at q1
        intro r hr; simpa using q1 r hr
      rw [this]
    rw [hg] at hx
    obtain ⟨zv, hzr, hzx⟩ := zero_load (E := E) hz hn hs hl hp ha hx
    refine ⟨zv, ?_, hzx⟩
    have hh : mHas p.2 s = false := by rw [findIdx_any, q1]; rfl
    cases ok <;> simp [Instr.lookup, run_underlying hu, MapKept.run_getObj_map h3, run_checkStr hk, run_findStr hk q2, hzr, Result.andThen, hh]
  · obtain ⟨s', cs, w, rfl, c2, c3, c4, c5, c6⟩ := q6
    have hg : mGet p.2 s z = cs := by
      unfold mGet
      rw [q4]; rfl
    rw [hg, c2, c3] at hx
    injection hx with hx; subst hx
    refine ⟨y.val, ?_, c6⟩
    have hh : mHas p.2 s = true := by rw [findIdx_any, q1]; rfl
    cases ok <;> simp [Instr.lookup, run_underlying hu, MapKept.run_getObj_map h3, run_checkStr hk, run_findStr hk q7, Result.andThen, hh]
end Go.Proofs.YtolackmpfnndhaaGreatDoor.Ev
