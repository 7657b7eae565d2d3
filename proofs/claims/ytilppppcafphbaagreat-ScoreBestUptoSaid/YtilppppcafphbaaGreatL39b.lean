/- The plain laws of spread: counts. Conditions: stated at each. -/
import Derived.Test.YtilppppcafphbaaGreatNms
import Derived.Test.YtilppppcafphbaaGreatL39a
namespace Go.Proofs.YtilppppcafphbaaGreat.Ev
open Go Go.RowKit
set_option linter.unusedVariables false
set_option linter.unusedSimpArgs false
set_option maxRecDepth 100000
noncomputable section
theorem activeV_eq (a : Row) : pod_Active.v a = ref33_Active.v a := by kernel_rfl
/-- A node's domain. -/
def dm (t : ByteArray) (q : Row) : ByteArray × Bool := ref36_Domain.v (et 51 q) t
def isD (t : ByteArray) (d : ByteArray) (q : Row) : Bool := (dm t q).2 && sEq (dm t q).1 d
-- the reference's names
theorem names_v (t : ByteArray) : ∀ (es : Rows) (i : Int) (l : List ByteArray), Asc l → ∃ l', walk (ref37_Counts.p3 t) (fun x => x) es i (nms l) = nms l' ∧ Asc l' ∧ ∀ x, x ∈ l' ↔ x ∈ l ∨ es.any (isD t x) = true
  | [], i, l, h => ⟨l, rfl, h, fun x => by simp⟩
  | q :: es, i, l, h => by
    simp only [walk]
    have hp : ref37_Counts.p3 t i q (nms l) = .inl (bif (dm t q).2 then ref10_Union.v (nms l) (nms [(dm t q).1]) else nms l) := rfl
    rw [hp]
    show ∃ l', walk (ref37_Counts.p3 t) (fun x => x) es (i + 1) (bif (dm t q).2 then ref10_Union.v (nms l) (nms [(dm t q).1]) else nms l) = nms l' ∧ _
    cases hb : (dm t q).2 with
    | true =>
      show ∃ l', walk (ref37_Counts.p3 t) (fun x => x) es (i + 1) (ref10_Union.v (nms l) (nms [(dm t q).1])) = nms l' ∧ _
      rw [union_v]
      obtain ⟨l', h1, h2, h3⟩ := names_v t es (i + 1) (uni l [(dm t q).1]) (uni_asc _ _)
      refine ⟨l', h1, h2, fun x => ?_⟩
      rw [h3, uni_mem, List.any_cons, Bool.or_eq_true]
      have he : isD t x q = true ↔ x ∈ [(dm t q).1] := by
        unfold isD
        rw [hb, List.mem_singleton, Bool.true_and, sEq_iff]
        exact ⟨fun h => h.symm, fun h => h.symm⟩
      rw [he]
      constructor
      · rintro ((h | h) | h)
        · exact Or.inl h
        · exact Or.inr (Or.inl h)
        · exact Or.inr (Or.inr h)
      · rintro (h | h | h)
        · exact Or.inl (Or.inl h)
        · exact Or.inl (Or.inr h)
        · exact Or.inr h
    | false =>
      obtain ⟨l', h1, h2, h3⟩ := names_v t es (i + 1) l h
      refine ⟨l', h1, h2, fun x => ?_⟩
      rw [h3, List.any_cons]
      have he : isD t x q = false := by unfold isD; rw [hb]; rfl
      rw [he]; rfl
/-- Counted from n on. -/
def cnt (P : Row → Bool) (es : Rows) (n : Int) : Int := es.foldl (fun n q => bif P q then iAdd .i64 n 1 else n) n
theorem cnt_cons (P : Row → Bool) (q : Row) (es : Rows) (n : Int) : cnt P (q :: es) n = cnt P es (bif P q then iAdd .i64 n 1 else n) := rfl
theorem cnt_congr {P P' : Row → Bool} : ∀ {es : Rows} {n : Int}, (∀ q, P q = P' q) → cnt P es n = cnt P' es n
  | [], n, h => rfl
  | q :: es, n, h => by rw [cnt_cons, cnt_cons, h, cnt_congr h]
theorem count_v (c0 d : ByteArray) (c4 c5 : Row) : ∀ (es : Rows) (i : Int) (n : Int), walk (ref37_Counts.p14 c0 d c4 c5) ref37_Counts.z14 es i [.str d, .int .i64 n] = [.str d, .int .i64 (cnt (ref37_Counts.okQ c0 d c4 c5) es n)]
  | [], i, n => rfl
  | q :: es, i, n => by
    simp only [walk]
    rw [cnt_cons]
    have hp : ref37_Counts.p14 c0 d c4 c5 i q [.str d, .int .i64 n] = .inl [.str d, .int .i64 (bif ref37_Counts.okQ c0 d c4 c5 q then iAdd .i64 n 1 else n)] := by
      unfold ref37_Counts.p14
      cases ref37_Counts.okQ c0 d c4 c5 q <;> rfl
    rw [hp]
    exact count_v c0 d c4 c5 es (i + 1) _
/-- A row of the answer. -/
def cRow (a0 : Row) (a1 : ByteArray) (a2 : Row) (d : ByteArray) : Row := [.str d, .int .i64 (cnt (ref37_Counts.okQ a1 d (et 26 (et 26 a0)) (et 112 (et 112 a2))) (rSl a0 1) 0)]
theorem refCounts_v (a0 : Row) (a1 : ByteArray) (a2 : Row) : ∃ l, ref37_Counts.v a0 a1 a2 = l.map (cRow a0 a1 a2) ∧ Asc l ∧ ∀ x, x ∈ l ↔ (rSl a0 0).any (isD (rStr a2 1) x) = true := by
  obtain ⟨l, h1, h2, h3⟩ := names_v (rStr a2 1) (rSl a0 0) 0 [] List.Pairwise.nil
  refine ⟨l, ?_, h2, fun x => by rw [h3]; simp⟩
  have hn : ref37_Counts.nm a0 a2 = nms l := h1
  unfold ref37_Counts.v
  rw [hn]
  show walk (ref37_Counts.p10 a1 (et 26 a0) (et 112 a2)) (fun x => x) (nms l) 0 [] = _
  refine (walk_gather (p := ref37_Counts.p10 a1 (et 26 a0) (et 112 a2)) (z := fun x => x) (fun q => some (et 117 (ref37_Counts.w14 a1 (rStr q 0) (et 26 (et 26 a0)) (et 112 (et 112 a2)) [.str (rStr q 0), .int .i64 (0)]))) (fun i q x _ => rfl)).trans ?_
  show [] ++ List.filterMap (some ∘ _) (nms l) = _
  rw [List.nil_append, List.filterMap_eq_map]
  unfold nms
  rw [List.map_map]
  refine List.map_congr_left (fun d _ => ?_)
  show et 117 (walk (ref37_Counts.p14 a1 d (et 26 (et 26 a0)) (et 112 (et 112 a2))) ref37_Counts.z14 (rSl (et 26 (et 26 a0)) 1) 0 [.str d, .int .i64 (0)]) = _
  rw [count_v]; rfl
-- the program's maps
def nameIs (s : ByteArray) (q : Row) : Bool := sEq (rStr q 2) s
/-- A row that begins with its key. -/
def Kd (q : Row) : Prop := q = .str (rStr q 0) :: q.drop 1
structure Walked (t : ByteArray) (es : Rows) (dm0 sn cs dm1 cs1 : Rows) : Prop where
  has : ∀ s, mHas dm1 s = bif rBool (mGet sn s [.bool false]) 0 then mHas dm0 s else match es.find? (nameIs s) with | some q => (dm t q).2 || mHas dm0 s | none => mHas dm0 s
  get : ∀ s z, mGet dm1 s z = bif rBool (mGet sn s [.bool false]) 0 then mGet dm0 s z else match es.find? (nameIs s) with | some q => (bif (dm t q).2 then [.str (dm t q).1] else mGet dm0 s z) | none => mGet dm0 s z
  cnt : ∀ d, mHas cs1 d = (mHas cs d || es.any (isD t d))
  zero : (∀ d, mGet cs d spread_Counts.z0 = spread_Counts.z0) → ∀ d, mGet cs1 d spread_Counts.z0 = spread_Counts.z0
  ok : mOk cs = true → mOk cs1 = true
  keyed : (∀ q, q ∈ cs → Kd q) → ∀ q, q ∈ cs1 → Kd q
theorem walked (t : ByteArray) : ∀ (es : Rows) (i : Int) (dm0 sn cs : Rows), Walked t es dm0 sn cs (walk (spread_Counts.p5 t) spread_Counts.z5 es i (dm0, sn, cs)).1 (walk (spread_Counts.p5 t) spread_Counts.z5 es i (dm0, sn, cs)).2
  | [], i, dm0, sn, cs => by
    refine ⟨fun s => ?_, fun s z => ?_, fun d => ?_, fun h => h, fun h => h, fun h => h⟩
    · show mHas dm0 s = bif _ then mHas dm0 s else mHas dm0 s
      cases rBool (mGet sn s [.bool false]) 0 <;> rfl
    · show mGet dm0 s z = bif _ then mGet dm0 s z else mGet dm0 s z
      cases rBool (mGet sn s [.bool false]) 0 <;> rfl
    · show mHas cs d = (mHas cs d || false)
      rw [Bool.or_false]
  | q :: es, i, dm0, sn, cs => by
    simp only [walk]
    have hp : spread_Counts.p5 t i q (dm0, sn, cs) = .inl ((bif (bIte (dm t q).2 (bNot (rBool (mGet sn (rStr q 2) [.bool false]) 0)) false) then mSet dm0 (rStr q 2) [.str (dm t q).1] else dm0), mSet sn (rStr q 2) [.bool true],
      (bif (dm t q).2 then mSet cs (dm t q).1 [.int .i64 (iAdd .i64 (rInt (mGet cs (dm t q).1 spread_Counts.z0) 0) (0))] else cs)) := by
      unfold spread_Counts.p5
      rw [domV_eq]; rfl
    rw [hp]
    generalize hdm : (bif (bIte (dm t q).2 (bNot (rBool (mGet sn (rStr q 2) [.bool false]) 0)) false) then mSet dm0 (rStr q 2) [.str (dm t q).1] else dm0) = dm0'
    generalize hcs : (bif (dm t q).2 then mSet cs (dm t q).1 [.int .i64 (iAdd .i64 (rInt (mGet cs (dm t q).1 spread_Counts.z0) 0) (0))] else cs) = cs'
    show Walked t (q :: es) dm0 sn cs (walk (spread_Counts.p5 t) spread_Counts.z5 es (i + 1) (dm0', mSet sn (rStr q 2) [.bool true], cs')).1 (walk (spread_Counts.p5 t) spread_Counts.z5 es (i + 1) (dm0', mSet sn (rStr q 2) [.bool true], cs')).2
    have ih := walked t es (i + 1) dm0' (mSet sn (rStr q 2) [.bool true]) cs'
    have hsn : ∀ s, rBool (mGet (mSet sn (rStr q 2) [.bool true]) s [.bool false]) 0 = (sEq (rStr q 2) s || rBool (mGet sn s [.bool false]) 0) := fun s => by
      rw [mSet_get]
      cases sEq (rStr q 2) s <;> rfl
    have hsame : ∀ s, rBool (mGet sn s [.bool false]) 0 = true → sEq (rStr q 2) s = true → rBool (mGet sn (rStr q 2) [.bool false]) 0 = true := fun s h k => by rw [sEq_iff.1 k]; exact h
    refine ⟨fun s => ?_, fun s z => ?_, fun d => ?_, fun h => ih.zero ?_, fun h => ih.ok ?_, fun h => ih.keyed ?_⟩
    · rw [ih.has s, hsn, List.find?_cons]
      have hn : nameIs s q = sEq (rStr q 2) s := rfl
      rw [hn, ← hdm]
      cases hs : rBool (mGet sn s [.bool false]) 0 with
      | true =>
        rw [Bool.or_true]
        show mHas _ s = mHas dm0 s
        cases hq : sEq (rStr q 2) s with
        | true => rw [hsame s hs hq]; cases (dm t q).2 <;> rfl
        | false =>
          cases bIte (dm t q).2 (bNot (rBool (mGet sn (rStr q 2) [.bool false]) 0)) false with
          | true => show mHas (mSet dm0 _ _) s = _; rw [mSet_has, hq]; rfl
          | false => rfl
      | false =>
        cases hq : sEq (rStr q 2) s with
        | true =>
          have hb : rBool (mGet sn (rStr q 2) [.bool false]) 0 = false := by rw [sEq_iff.1 hq]; exact hs
          rw [hb]
          show mHas _ s = ((dm t q).2 || mHas dm0 s)
          cases (dm t q).2 with
          | true => show mHas (mSet dm0 _ _) s = _; rw [mSet_has, hq]
          | false => rfl
        | false =>
          have he : mHas (bif bIte (dm t q).2 (bNot (rBool (mGet sn (rStr q 2) [.bool false]) 0)) false then mSet dm0 (rStr q 2) [.str (dm t q).1] else dm0) s = mHas dm0 s := by
            cases bIte (dm t q).2 (bNot (rBool (mGet sn (rStr q 2) [.bool false]) 0)) false with
            | true => show mHas (mSet dm0 _ _) s = _; rw [mSet_has, hq]; rfl
            | false => rfl
          rw [he]; rfl
    · rw [ih.get s z, hsn, List.find?_cons]
      have hn : nameIs s q = sEq (rStr q 2) s := rfl
      rw [hn, ← hdm]
      cases hs : rBool (mGet sn s [.bool false]) 0 with
      | true =>
        rw [Bool.or_true]
        show mGet _ s z = mGet dm0 s z
        cases hq : sEq (rStr q 2) s with
        | true => rw [hsame s hs hq]; cases (dm t q).2 <;> rfl
        | false =>
          cases bIte (dm t q).2 (bNot (rBool (mGet sn (rStr q 2) [.bool false]) 0)) false with
          | true => show mGet (mSet dm0 _ _) s z = _; rw [mSet_get, hq]; rfl
          | false => rfl
      | false =>
        cases hq : sEq (rStr q 2) s with
        | true =>
          have hb : rBool (mGet sn (rStr q 2) [.bool false]) 0 = false := by rw [sEq_iff.1 hq]; exact hs
          rw [hb]
          show mGet _ s z = bif (dm t q).2 then [.str (dm t q).1] else mGet dm0 s z
          cases (dm t q).2 with
          | true => show mGet (mSet dm0 _ _) s z = _; rw [mSet_get, hq]
          | false => rfl
        | false =>
          have he : mGet (bif bIte (dm t q).2 (bNot (rBool (mGet sn (rStr q 2) [.bool false]) 0)) false then mSet dm0 (rStr q 2) [.str (dm t q).1] else dm0) s z = mGet dm0 s z := by
            cases bIte (dm t q).2 (bNot (rBool (mGet sn (rStr q 2) [.bool false]) 0)) false with
            | true => show mGet (mSet dm0 _ _) s z = _; rw [mSet_get, hq]; rfl
            | false => rfl
          rw [he]; rfl
    · rw [ih.cnt d, List.any_cons, ← hcs]
      have hi : isD t d q = ((dm t q).2 && sEq (dm t q).1 d) := rfl
      rw [hi]
      cases (dm t q).2 with
      | true =>
        show (mHas (mSet cs _ _) d || _) = _
        rw [mSet_has]
        cases sEq (dm t q).1 d <;> cases mHas cs d <;> rfl
      | false => rfl
    · intro d
      rw [← hcs]
      cases (dm t q).2 with
      | true =>
        show mGet (mSet cs _ _) d _ = _
        rw [mSet_get, h]
        cases sEq (dm t q).1 d with
        | true => rfl
        | false => exact h d
      | false => exact h d
    · rw [← hcs]
      cases (dm t q).2 with
      | true => exact mSet_ok _ _ h
      | false => exact h
    · rw [← hcs]
      cases (dm t q).2 with
      | true => exact mSet_all h rfl
      | false => exact h
theorem find_dom (a0 : Row) (s t : ByteArray) : ref37_domain.v (et 26 a0) s t = match (rSl a0 0).find? (nameIs s) with | some q => dm t q | none => (ByteArray.empty, false) := by
  show Sum.elim _ _ (walk (ref37_domain.p2 s t) ref37_domain.z2 (rSl a0 0) 0 ()) = _
  rw [walk_find (nameIs s) (fun q => Sum.inl (dm t q)) (fun i q _ => rfl)]
  cases (rSl a0 0).find? (nameIs s) <;> rfl
structure Counted (P : Row → Bool) (D : Row → ByteArray) (es cs cs1 : Rows) : Prop where
  has : ∀ d, mHas cs1 d = mHas cs d
  get : ∀ d, mGet cs1 d spread_Counts.z0 = [.int .i64 (cnt (fun q => P q && sEq (D q) d) es (rInt (mGet cs d spread_Counts.z0) 0))]
  ok : mOk cs = true → mOk cs1 = true
  keyed : (∀ q, q ∈ cs → Kd q) → ∀ q, q ∈ cs1 → Kd q
theorem counted (c0 : ByteArray) (sel dm0 : Rows) : ∀ (es : Rows) (i : Int) (cs : Rows), (∀ q, spread_Counts.okP c0 sel dm0 q = true → mHas cs (spread_Counts.dmOf dm0 q) = true) → (∀ d, mGet cs d spread_Counts.z0 = [.int .i64 (rInt (mGet cs d spread_Counts.z0) 0)]) →
    Counted (spread_Counts.okP c0 sel dm0) (spread_Counts.dmOf dm0) es cs (walk (spread_Counts.p15 c0 sel dm0) (fun x => x) es i cs)
  | [], i, cs, hk, hz => ⟨fun d => rfl, fun d => hz d, fun h => h, fun h => h⟩
  | q :: es, i, cs, hk, hz => by
    simp only [walk]
    have hp : spread_Counts.p15 c0 sel dm0 i q cs = .inl (bif spread_Counts.okP c0 sel dm0 q then mSet cs (spread_Counts.dmOf dm0 q) [.int .i64 (iAdd .i64 (rInt (mGet cs (spread_Counts.dmOf dm0 q) spread_Counts.z0) 0) (1))] else cs) := rfl
    rw [hp]
    show Counted _ _ (q :: es) cs (walk (spread_Counts.p15 c0 sel dm0) (fun x => x) es (i + 1) (bif spread_Counts.okP c0 sel dm0 q then mSet cs (spread_Counts.dmOf dm0 q) [.int .i64 (iAdd .i64 (rInt (mGet cs (spread_Counts.dmOf dm0 q) spread_Counts.z0) 0) (1))] else cs))
    cases hok : spread_Counts.okP c0 sel dm0 q with
    | true =>
      simp only [cond_true]
      generalize hx : iAdd .i64 (rInt (mGet cs (spread_Counts.dmOf dm0 q) spread_Counts.z0) 0) (1) = n1
      have hh := hk q hok
      have hhas : ∀ d, mHas (mSet cs (spread_Counts.dmOf dm0 q) [.int .i64 n1]) d = mHas cs d := fun d => by
        rw [mSet_has]
        cases hs : sEq (spread_Counts.dmOf dm0 q) d with
        | true => rw [← sEq_iff.1 hs, hh]; rfl
        | false => rfl
      have ih := counted c0 sel dm0 es (i + 1) (mSet cs (spread_Counts.dmOf dm0 q) [.int .i64 n1]) (fun q' h' => by rw [hhas]; exact hk q' h') (fun d => by
        rw [mSet_get]
        cases sEq (spread_Counts.dmOf dm0 q) d with
        | true => rfl
        | false => exact hz d)
      refine ⟨fun d => (ih.has d).trans (hhas d), fun d => ?_, fun h => ih.ok (mSet_ok _ _ h), fun h => ih.keyed (mSet_all h rfl)⟩
      rw [ih.get d, cnt_cons, mSet_get, hok]
      cases hs : sEq (spread_Counts.dmOf dm0 q) d with
      | true => rw [← sEq_iff.1 hs, hx]; rfl
      | false => rfl
    | false =>
      have ih := counted c0 sel dm0 es (i + 1) cs hk hz
      refine ⟨ih.has, fun d => ?_, ih.ok, ih.keyed⟩
      refine (ih.get d).trans ?_
      rw [cnt_cons, hok]; rfl
theorem bite3 (a b c d : Bool) : bIte (bIte (bIte a b false) c false) d false = (a && b && c && d) := by cases a <;> cases b <;> cases c <;> rfl
theorem bite4 (a z b c d : Bool) : bIte (bIte (bIte (bIte a z false) b false) c false) d false = (a && z && b && c && d) := by cases a <;> cases z <;> cases b <;> cases c <;> rfl
/-- The program's counts are the reference's. -/
theorem countsV_eq (a0 : Row) (a1 : ByteArray) (a2 : Row) : spread_Counts.v a0 a1 a2 = ref37_Counts.v a0 a1 a2 := by
  obtain ⟨l, h1, h2, h3⟩ := refCounts_v a0 a1 a2
  rw [h1]
  have hw := walked (rStr a2 1) (rSl a0 0) 0 [] [] []
  generalize hr : walk (spread_Counts.p5 (rStr a2 1)) spread_Counts.z5 (rSl a0 0) 0 ([], [], []) = r at hw
  obtain ⟨dm0, cs⟩ := r
  have hv : spread_Counts.v a0 a1 a2 = sortC (walk (spread_Counts.p15 a1 (rSl a2 2) dm0) (fun x => x) (rSl a0 1) 0 cs) := by
    unfold spread_Counts.v spread_Counts.m spread_Counts.w5
    rw [hr]; rfl
  rw [hv]
  have hhas : ∀ s, mHas dm0 s = (ref37_domain.v (et 26 a0) s (rStr a2 1)).2 := fun s => by
    rw [hw.has s, find_dom]
    show (bif false then _ else _) = _
    cases (rSl a0 0).find? (nameIs s) with
    | some q => exact Bool.or_false _
    | none => rfl
  have hget : ∀ s, mHas dm0 s = true → rStr (mGet dm0 s [.str ByteArray.empty]) 0 = (ref37_domain.v (et 26 a0) s (rStr a2 1)).1 := fun s h => by
    rw [hhas, find_dom] at h
    rw [hw.get s, find_dom]
    show rStr (bif false then _ else _) 0 = _
    cases hf : (rSl a0 0).find? (nameIs s) with
    | some q =>
      rw [hf] at h
      have h' : (dm (rStr a2 1) q).2 = true := h
      show rStr (bif (dm (rStr a2 1) q).2 then _ else _) 0 = _
      rw [h']; rfl
    | none => rw [hf] at h; cases h
  have hcs : ∀ d, mHas cs d = (rSl a0 0).any (isD (rStr a2 1) d) := fun d => (hw.cnt d).trans (Bool.false_or _)
  have hz : ∀ d, mGet cs d spread_Counts.z0 = spread_Counts.z0 := hw.zero (fun d => rfl)
  have hkept : ∀ q, spread_Counts.okP a1 (rSl a2 2) dm0 q = true → mHas cs (spread_Counts.dmOf dm0 q) = true := fun q h => by
    have hd : mHas dm0 (rStr q 13) = true := by
      unfold spread_Counts.okP at h
      rw [bite3] at h
      simp only [Bool.and_eq_true] at h
      exact h.1.1.1
    have he := hget _ hd
    unfold spread_Counts.dmOf
    rw [he, hcs]
    rw [hhas, find_dom] at hd
    rw [find_dom]
    cases hf : (rSl a0 0).find? (nameIs (rStr q 13)) with
    | none => rw [hf] at hd; cases hd
    | some n =>
      rw [hf] at hd
      have hd' : (dm (rStr a2 1) n).2 = true := hd
      refine List.any_eq_true.2 ⟨n, List.mem_of_find?_eq_some hf, ?_⟩
      unfold isD
      rw [hd', sEq_refl]; rfl
  have hc := counted a1 (rSl a2 2) dm0 (rSl a0 1) 0 cs hkept (fun d => by rw [hz]; rfl)
  generalize walk (spread_Counts.p15 a1 (rSl a2 2) dm0) (fun x => x) (rSl a0 1) 0 cs = m at hc ⊢
  have hok : mOk m = true := hc.ok (hw.ok rfl)
  have hkd : ∀ q, q ∈ m → Kd q := hc.keyed (hw.keyed (fun q h => by cases h))
  have hP : ∀ d q, (spread_Counts.okP a1 (rSl a2 2) dm0 q && sEq (spread_Counts.dmOf dm0 q) d) = ref37_Counts.okQ a1 d (et 26 (et 26 a0)) (et 112 (et 112 a2)) q := fun d q => by
    unfold spread_Counts.okP ref37_Counts.okQ
    rw [bite3]
    show _ = bIte (bIte (bIte (bIte (ref37_domain.v (et 26 a0) (rStr q 13) (rStr a2 1)).2 (sEq (ref37_domain.v (et 26 a0) (rStr q 13) (rStr a2 1)).1 d) false) (ref33_Active.v (et 45 q)) false) (sEq (rStr q 1) a1) false) (ref03_Matches.v (rSl a2 2) (rSl q 9)) false
    rw [bite4, activeV_eq, matchesV_eq, ← hhas]
    cases hd : mHas dm0 (rStr q 13) with
    | false => rfl
    | true =>
      have he := hget _ hd
      unfold spread_Counts.dmOf
      rw [he]
      cases sEq (ref37_domain.v (et 26 a0) (rStr q 13) (rStr a2 1)).1 d <;> cases ref33_Active.v (et 45 q) <;> cases sEq (rStr q 1) a1 <;> cases ref03_Matches.v (rSl a2 2) (rSl q 9) <;> rfl
  have hrow : ∀ q, q ∈ m → q = cRow a0 a1 a2 (rStr q 0) := fun q hq => by
    have h4 := (mGet_mem (z := spread_Counts.z0) hok hq).2
    rw [hc.get, hz] at h4
    refine (hkd q hq).trans ?_
    rw [← h4]
    unfold cRow
    rw [cnt_congr (hP (rStr q 0))]; rfl
  have hmem : ∀ x, x ∈ l ↔ x ∈ m.map (fun q => rStr q 0) := fun x => by
    rw [h3, ← hcs, ← hc.has, List.mem_map, mHas_iff]
  have hnd : (m.map (fun q => rStr q 0)).Nodup := List.pairwise_map.2 (mOk_pair hok)
  have hperm := (List.perm_ext_iff_of_nodup h2.nodup hnd).2 hmem
  have hm : (m.map (fun q => rStr q 0)).map (cRow a0 a1 a2) = m := by
    rw [List.map_map]
    refine (List.map_congr_left (g := id) (fun q hq => (hrow q hq).symm)).trans (List.map_id _)
  have hp : (l.map (cRow a0 a1 a2)).Perm m := by
    have := hperm.map (cRow a0 a1 a2)
    rw [hm] at this; exact this
  refine (sortC_unique hp ?_ hok).symm
  exact List.pairwise_map.2 (List.Pairwise.imp (fun h => sLt_asymm h) h2)
end
end Go.Proofs.YtilppppcafphbaaGreat.Ev
