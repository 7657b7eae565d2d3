/- The plain laws of spread: Fits and Score. Conditions: stated at each. -/
import Derived.Test.YtilppppcafphbaaGreatL39b
import Derived.Test.YtilppppcafphbaaGreatDel
namespace Go.Proofs.YtilppppcafphbaaGreat.Ev
open Go Go.RowKit
set_option linter.unusedVariables false
set_option linter.unusedSimpArgs false
set_option maxRecDepth 100000
noncomputable section
/-- What the counts read of a pod. -/
def pr (q : Row) : ByteArray × Bool × ByteArray × Rows := (rStr q 13, ref33_Active.v (et 45 q), rStr q 1, rSl q 9)
theorem pr_et (q : Row) : pr (et 45 q) = pr q := by kernel_rfl
def okR (ns d : ByteArray) (vw ru : Row) (y : ByteArray × Bool × ByteArray × Rows) : Bool :=
  let r0 := ref37_domain.v (et 26 vw) y.1 (rStr ru 1)
  bIte (bIte (bIte (bIte r0.2 (sEq r0.1 d) false) y.2.1 false) (sEq y.2.2.1 ns) false) (ref03_Matches.v (rSl ru 2) y.2.2.2) false
theorem okQ_pr (ns d : ByteArray) (vw ru q : Row) : ref37_Counts.okQ ns d vw ru q = okR ns d vw ru (pr q) := rfl
theorem cnt_map {α : Type} (g : Row → α) (F : α → Bool) : ∀ (es : Rows) (n : Int), cnt (fun q => F (g q)) es n = (es.map g).foldl (fun n y => bif F y then iAdd .i64 n 1 else n) n
  | [], n => rfl
  | q :: es, n => by rw [cnt_cons, cnt_map g F es]; rfl
theorem counts_form (a0 : Row) (a1 : ByteArray) (a2 : Row) : ref37_Counts.v a0 a1 a2 = (ref37_Counts.w3 (rStr a2 1) (rSl a0 0)).map (fun q => et 117 (ref37_Counts.w14 a1 (rStr q 0) (et 26 (et 26 a0)) (et 112 (et 112 a2)) [.str (rStr q 0), .int .i64 (0)])) := by
  unfold ref37_Counts.v
  refine (walk_gather (p := ref37_Counts.p10 a1 (et 26 a0) (et 112 a2)) (z := fun x => x) (fun q => some (et 117 (ref37_Counts.w14 a1 (rStr q 0) (et 26 (et 26 a0)) (et 112 (et 112 a2)) [.str (rStr q 0), .int .i64 (0)]))) (fun i q x _ => rfl)).trans ?_
  show [] ++ List.filterMap (some ∘ _) _ = _
  rw [List.nil_append, List.filterMap_eq_map]; rfl
theorem counts_congr {a0 b0 : Row} (a1 : ByteArray) (a2 : Row) (h0 : rSl a0 0 = rSl b0 0) (h1 : (rSl a0 1).map pr = (rSl b0 1).map pr) : ref37_Counts.v a0 a1 a2 = ref37_Counts.v b0 a1 a2 := by
  rw [counts_form, counts_form, h0]
  refine List.map_congr_left (fun q _ => ?_)
  congr 1
  show walk _ _ (rSl a0 1) 0 _ = walk _ _ (rSl b0 1) 0 _
  rw [count_v, count_v]
  have hok : ∀ d y, okR a1 d (et 26 (et 26 a0)) (et 112 (et 112 a2)) y = okR a1 d (et 26 (et 26 b0)) (et 112 (et 112 a2)) y := fun d y => by
    have hf : ∀ s t, ref37_domain.v (et 26 (et 26 (et 26 a0))) s t = ref37_domain.v (et 26 (et 26 (et 26 b0))) s t := fun s t => by
      rw [find_dom, find_dom]
      show (match (rSl a0 0).find? (nameIs s) with | some q => dm t q | none => _) = (match (rSl b0 0).find? (nameIs s) with | some q => dm t q | none => _)
      rw [h0]
    unfold okR
    rw [hf]
  have e : ∀ (c : Row), cnt (ref37_Counts.okQ a1 (rStr q 0) (et 26 (et 26 c)) (et 112 (et 112 a2))) (rSl c 1) 0 = ((rSl c 1).map pr).foldl (fun n y => bif okR a1 (rStr q 0) (et 26 (et 26 c)) (et 112 (et 112 a2)) y then iAdd .i64 n 1 else n) 0 := fun c => cnt_map pr (okR a1 (rStr q 0) (et 26 (et 26 c)) (et 112 (et 112 a2))) (rSl c 1) 0
  rw [e, e, h1]
  simp only [hok]
/-- Not of the pod with the key. -/
def oth (k : ByteArray) (q : Row) : Bool := !sEq (ref13_KeyOf.v (et 32 q)) k
theorem key_et (q : Row) : ref13_KeyOf.v (et 32 (et 45 q)) = ref13_KeyOf.v (et 32 q) := by kernel_rfl
theorem del_v (es : Rows) (k : ByteArray) (hN : es.length ≤ 1048576) : (rTake (slices_DeleteFunc_api_Pod_api_Pod_c89.v es [.str k]).1 (slices_DeleteFunc_api_Pod_api_Pod_c89.v es [.str k]).2).map pr = (es.filter (oth k)).map pr := by
  have hdel : ∀ q, spread_look_1.v (et 45 q) [.str k] = !oth k q := fun q => by
    have : spread_look_1.v (et 45 q) [.str k] = sEq (meta_KeyOf.v (et 32 (et 45 q))) k := rfl
    rw [this, keyV_eq, key_et]; unfold oth; rw [Bool.not_not]
  have ht : rTake es (rLen es) = es := by unfold rTake rLen; simp
  have hidx : slices_IndexFunc_api_Pod_api_Pod_c89.v (rTake es (rLen es)) [.str (rStr [.str k] 0)] = Sum.elim (fun r0 => r0) (fun r1 => -1) (walk slices_IndexFunc_api_Pod_api_Pod_c89.p2 slices_IndexFunc_api_Pod_api_Pod_c89.z2 es 0 [.str k]) := by
    rw [ht]; rfl
  unfold slices_DeleteFunc_api_Pod_api_Pod_c89.v
  rw [hidx]
  rcases walk_first (fun q => spread_look_1.v (et 45 q) [.str k]) (p := slices_IndexFunc_api_Pod_api_Pod_c89.p2) (z := slices_IndexFunc_api_Pod_api_Pod_c89.z2) [.str k] (fun i q => rfl) es 0 with ⟨h1, h2⟩ | ⟨pre, d, suf, h1, h2, h3, h4⟩
  · rw [h1]
    show (rTake es (rLen es)).map pr = _
    rw [ht, List.filter_eq_self.2 (fun q hq => by have := h2 q hq; rw [hdel] at this; simpa using this)]
  · rw [h2]
    have e0 : iEq ((0 : Int) + (pre.length : Int)) (-1) = false := by
      cases h : iEq ((0 : Int) + (pre.length : Int)) (-1) with
      | false => rfl
      | true => have := iEq_iff.1 h; omega
    have hf : es.filter (oth k) = es.filter (fun q => !(spread_look_1.v (et 45 q) [.str k])) := by
      exact congrArg (fun f => es.filter f) (funext fun q => by rw [hdel, Bool.not_not])
    rw [hf]
    have key := del_rest (p := slices_DeleteFunc_api_Pod_api_Pod_c89.p5) (z := slices_DeleteFunc_api_Pod_api_Pod_c89.z5) (fun q => spread_look_1.v (et 45 q) [.str k]) (et 45) pr [.str k] (fun i q n xs => rfl) (fun n xs => rfl) pr_et hN h1 h3 h4
    show (rTake (bif iEq ((0 : Int) + (pre.length : Int)) (-1) then _ else _ : Rows × Int).1 (bif iEq ((0 : Int) + (pre.length : Int)) (-1) then _ else _ : Rows × Int).2).map pr = _
    rw [e0, Int.zero_add]
    dsimp only [cond_false]
    rw [← key (rLen es - (walk slices_DeleteFunc_api_Pod_api_Pod_c89.p5 slices_DeleteFunc_api_Pod_api_Pod_c89.z5 ((nRows (rLen es)).drop (iAdd .i64 (pre.length : Int) 1).toNat) (iAdd .i64 (pre.length : Int) 1) ([.str k], (pre.length : Int), es)).1) []]
    show (rTake (rFill _ _ _ _) _).map pr = (rTake (rFill _ _ _ _) _).map pr
    rw [take_fill, take_fill]
    rfl
theorem others_v (a0 : Row) (k : ByteArray) : (ref37_others.w4 k (et 26 a0) []).map pr = ((rSl a0 1).filter (oth k)).map pr := by
  suffices ∀ (es : Rows) (i : Int) (x : Rows), (walk (ref37_others.p4 k) ref37_others.z4 es i x).map pr = x.map pr ++ (es.filter (oth k)).map pr by
    exact (this (rSl a0 1) 0 []).trans (by simp)
  intro es
  induction es with
  | nil => intro i x; simp [walk, ref37_others.z4]
  | cons q es ih =>
    intro i x
    simp only [walk]
    rw [List.filter_cons]
    have hp : ∃ q', ref37_others.p4 k i q x = (bif oth k q then .inl (rCat x [q']) else .inl x) ∧ pr q' = pr q := ⟨_, by
      unfold ref37_others.p4 oth
      rfl, by kernel_rfl⟩
    obtain ⟨q', hp, he⟩ := hp
    rw [hp]
    cases oth k q with
    | true =>
      refine (ih (i + 1) (rCat x [q'])).trans ?_
      show (x ++ [q']).map pr ++ _ = _
      rw [List.map_append, List.append_assoc]
      show x.map pr ++ (pr q' :: _) = _
      rw [he]; rfl
    | false => exact ih (i + 1) x
-- what is looked up
theorem wrap0 (a b : Int) : iAdd .i64 (iAdd .i64 a b) 0 = iAdd .i64 a b := by
  unfold iAdd; rw [IntKind.wrap_i64, IntKind.wrap_i64]; omega
def mn (x : Int) (q : Row) : Int := iMin x (rInt q 1)
theorem iMin_iff {a b c : Int} : c ≤ iMin a b ↔ c ≤ a ∧ c ≤ b := by unfold iMin; split <;> omega
theorem mn_le {c : Int} : ∀ {es : Rows} {x : Int}, c ≤ es.foldl mn x ↔ c ≤ x ∧ ∀ q, q ∈ es → c ≤ rInt q 1
  | [], x => by simp
  | q :: es, x => by
    rw [List.foldl_cons, mn_le]
    unfold mn
    rw [iMin_iff]
    constructor
    · rintro ⟨⟨h1, h2⟩, h3⟩
      exact ⟨h1, fun y hy => by rcases List.mem_cons.1 hy with rfl | hy; exact h2; exact h3 y hy⟩
    · rintro ⟨h1, h2⟩
      exact ⟨⟨h1, h2 q (List.mem_cons_self ..)⟩, fun y hy => h2 y (List.mem_cons_of_mem _ hy)⟩
/-- The least of all, begun at one of them, is the least begun at the first. -/
theorem mn_eq {q0 : Row} {es : Rows} {q : Row} (h : q ∈ q0 :: es) : (q0 :: es).foldl mn (rInt q 1) = es.foldl mn (rInt q0 1) := by
  have h1 : ∀ c, c ≤ (q0 :: es).foldl mn (rInt q 1) ↔ c ≤ es.foldl mn (rInt q0 1) := fun c => by
    rw [mn_le, mn_le]
    constructor
    · rintro ⟨_, k⟩
      exact ⟨k q0 (List.mem_cons_self ..), fun y hy => k y (List.mem_cons_of_mem _ hy)⟩
    · rintro ⟨k1, k2⟩
      have k : ∀ y, y ∈ q0 :: es → c ≤ rInt y 1 := fun y hy => by
        rcases List.mem_cons.1 hy with rfl | hy
        · exact k1
        · exact k2 y hy
      exact ⟨k q h, k⟩
  exact Int.le_antisymm ((h1 _).1 (Int.le_refl _)) ((h1 _).2 (Int.le_refl _))
def isR (d : ByteArray) (q : Row) : Bool := sEq (rStr q 0) d
theorem of_walk (d : ByteArray) : ∀ (es : Rows) (i : Int) (x : Int × Int × Bool), 0 < i → walk (ref37_of.p3 d) ref37_of.z3 es i x = (es.foldl (fun n q => bif isR d q then rInt q 1 else n) x.1, es.foldl mn x.2.1, x.2.2 || es.any (isR d))
  | [], i, x, hi => by
    show (x.1, x.2.1, x.2.2) = (x.1, x.2.1, x.2.2 || false)
    rw [Bool.or_false]
  | q :: es, i, x, hi => by
    simp only [walk]
    have h0 : iEq i 0 = false := by
      cases h : iEq i 0 with
      | false => rfl
      | true => have := iEq_iff.1 h; omega
    have hm : mn x.2.1 q = bif iLt (rInt q 1) x.2.1 then rInt q 1 else x.2.1 := by
      unfold mn iMin iLt
      by_cases h : rInt q 1 < x.2.1 <;> simp [h]
    have hp : ref37_of.p3 d i q x = .inl (bif isR d q then rInt q 1 else x.1, mn x.2.1 q, x.2.2 || isR d q) := by
      unfold ref37_of.p3
      rw [h0, hm]
      show (bif iLt (rInt q 1) x.2.1 then (bif isR d q then _ else _) else (bif isR d q then _ else _)) = _
      cases iLt (rInt q 1) x.2.1 <;> cases isR d q <;> simp
    rw [hp]
    show walk (ref37_of.p3 d) ref37_of.z3 es (i + 1) _ = _
    rw [of_walk d es (i + 1) _ (by omega)]
    simp [Bool.or_assoc]
theorem of_cons (d : ByteArray) (q : Row) (es : Rows) : ref37_of.v (q :: es) d = ((q :: es).foldl (fun n q => bif isR d q then rInt q 1 else n) 0, es.foldl mn (rInt q 1), (q :: es).any (isR d)) := by
  have hp : ref37_of.p3 d 0 q (0, 0, false) = .inl (bif isR d q then rInt q 1 else 0, rInt q 1, isR d q) := by
    unfold ref37_of.p3
    show (bif isR d q then _ else _) = _
    cases isR d q <;> rfl
  have hw : ref37_of.w3 (q :: es) d (0, 0, false) = ((q :: es).foldl (fun n q => bif isR d q then rInt q 1 else n) 0, es.foldl mn (rInt q 1), (q :: es).any (isR d)) := by
    unfold ref37_of.w3
    simp only [walk]
    rw [hp]
    show walk (ref37_of.p3 d) ref37_of.z3 es 1 _ = _
    rw [of_walk d es 1 _ (by omega)]; rfl
  unfold ref37_of.v
  rw [hw]
theorem last_none (d : ByteArray) : ∀ (es : Rows) (n : Int), (∀ q, q ∈ es → isR d q = false) → es.foldl (fun n q => bif isR d q then rInt q 1 else n) n = n
  | [], n, h => rfl
  | q :: es, n, h => by
    rw [List.foldl_cons, h q (List.mem_cons_self ..)]
    exact last_none d es n (fun y hy => h y (List.mem_cons_of_mem _ hy))
abbrev Ix := slices_IndexFunc_api_Count_api_Count_c93.v
/-- Where a domain stands in the counts, and what the reference finds. -/
theorem look_v (C : Rows) (d : ByteArray) (hC : C.Pairwise (fun a b => rStr a 0 ≠ rStr b 0)) :
    (Ix C [.str d] = -1 ∧ (ref37_of.v C d).2.2 = false ∧ (ref37_of.v C d).1 = 0) ∨ (0 ≤ Ix C [.str d] ∧ (ref37_of.v C d).2.2 = true ∧ (ref37_of.v C d).1 = rInt (rAt C (Ix C [.str d])) 1 ∧ (ref37_of.v C d).2.1 = C.foldl mn (rInt (rAt C (Ix C [.str d])) 1)) := by
  have hix : Ix C [.str d] = Sum.elim (fun r0 => r0) (fun r1 => -1) (walk slices_IndexFunc_api_Count_api_Count_c93.p2 slices_IndexFunc_api_Count_api_Count_c93.z2 C 0 [.str d]) := rfl
  rcases walk_first (isR d) (p := slices_IndexFunc_api_Count_api_Count_c93.p2) (z := slices_IndexFunc_api_Count_api_Count_c93.z2) [.str d] (fun i q => rfl) C 0 with ⟨h1, h2⟩ | ⟨pre, r, suf, h1, h2, h3, h4⟩
  · refine Or.inl ⟨by rw [hix, h1]; rfl, ?_⟩
    cases C with
    | nil => exact ⟨rfl, rfl⟩
    | cons q es =>
      rw [of_cons, last_none d _ _ h2]
      refine ⟨?_, rfl⟩
      show (q :: es).any (isR d) = false
      rw [List.any_eq_false]
      exact fun y hy => by rw [h2 y hy]; decide
  · have e1 : Ix C [.str d] = (pre.length : Int) := by
      rw [hix, h2]
      show (0 : Int) + (pre.length : Int) = _
      omega
    have hat : rAt C (pre.length : Int) = r := by
      show C.getD (Int.toNat (pre.length : Int)) [] = r
      rw [Int.toNat_natCast, h1, List.getD_eq_getElem?_getD]; simp
    have hmem : r ∈ C := by rw [h1]; simp
    have hsuf : ∀ q, q ∈ suf → isR d q = false := fun q hq => by
      rw [h1] at hC
      have := (List.pairwise_cons.1 (List.pairwise_append.1 hC).2.1).1 q hq
      refine sEq_ff.2 (fun e => this ?_)
      rw [e]; exact sEq_iff.1 h3
    have hlast : C.foldl (fun n q => bif isR d q then rInt q 1 else n) 0 = rInt r 1 := by
      rw [h1, List.foldl_append, last_none d pre _ h4, List.foldl_cons, h3, last_none d suf _ hsuf]; rfl
    have hany : C.any (isR d) = true := List.any_eq_true.2 ⟨r, hmem, h3⟩
    have hw : C.foldl mn (rInt r 1) = C.foldl mn (rInt r 1) := rfl
    rw [e1, hat, hw]
    refine Or.inr ⟨by omega, ?_⟩
    cases C with
    | nil => cases hmem
    | cons q es =>
      rw [of_cons]
      exact ⟨hany, hlast, (mn_eq hmem).symm⟩
theorem counts_keys (a0 : Row) (a1 : ByteArray) (a2 : Row) : (ref37_Counts.v a0 a1 a2).Pairwise (fun a b => rStr a 0 ≠ rStr b 0) := by
  obtain ⟨l, h1, h2, _⟩ := refCounts_v a0 a1 a2
  rw [h1]
  exact List.pairwise_map.2 (List.Pairwise.imp (fun h => sLt_ne h) h2)
/-- The counts without the pod. -/
def cOf (a0 a1 : Row) (q : Row) : Rows := ref37_Counts.v (et 26 (ref37_others.v (et 26 a0) (ref13_KeyOf.v (et 32 a1)))) (rStr a1 1) (et 112 q)
theorem cOf_of (a0 a1 q : Row) (vw : Row) (rest : Rows) (c3 c4 : V) (h0 : rSl vw 0 = rSl a0 0) (h1 : rest.map pr = ((rSl a0 1).filter (oth (ref13_KeyOf.v (et 32 a1)))).map pr) :
    spread_Counts.v [.slice 51 (rSl vw 0) .open, .slice 45 rest .open, c3, c4] (rStr a1 1) (et 112 (et 112 q)) = cOf a0 a1 q := by
  rw [countsV_eq, ← others_v] at *
  have e1 : rSl (et 26 (ref37_others.v (et 26 a0) (ref13_KeyOf.v (et 32 a1)))) 0 = rSl a0 0 := by kernel_rfl
  have e2 : rSl (et 26 (ref37_others.v (et 26 a0) (ref13_KeyOf.v (et 32 a1)))) 1 = ref37_others.w4 (ref13_KeyOf.v (et 32 a1)) (et 26 (et 26 a0)) [] := by kernel_rfl
  have e3 : rSl (et 26 a0) 1 = rSl a0 1 := by kernel_rfl
  have ho := others_v (et 26 a0) (ref13_KeyOf.v (et 32 a1))
  rw [e3, ← others_v, ← e2] at ho
  have e4 : ∀ (w : Row) (n : ByteArray), ref37_Counts.v w n (et 112 (et 112 q)) = ref37_Counts.v w n (et 112 q) := fun w n => by kernel_rfl
  rw [e4]
  unfold cOf
  exact counts_congr (b0 := et 26 (ref37_others.v (et 26 a0) (ref13_KeyOf.v (et 32 a1)))) _ _ (h0.trans e1.symm) (h1.trans ho.symm)
theorem lookV (a0 a1 a2 q : Row) (hN : (rSl a0 1).length ≤ 1048576) : spread_look.v (et 26 (et 26 a0)) (et 45 (et 45 a1)) (et 51 (et 51 a2)) (et 112 q) =
    (cOf a0 a1 q, bif (dm (rStr q 1) a2).2 then Ix (cOf a0 a1 q) [.str (dm (rStr q 1) a2).1] else -1, (dm (rStr q 1) a2).2) := by
  have hd : affinity_Domain.v (et 51 (et 51 (et 51 a2))) (rStr (et 112 q) 1) = dm (rStr q 1) a2 := by
    rw [domV_eq]; kernel_rfl
  have hk : meta_KeyOf.v (et 32 (et 45 (et 45 a1))) = ref13_KeyOf.v (et 32 a1) := by rw [keyV_eq, key_et, key_et]
  have hs : rSl (et 26 (et 26 a0)) 1 = rSl a0 1 := by kernel_rfl
  have hn : rStr (et 45 (et 45 a1)) 1 = rStr a1 1 := by kernel_rfl
  have hv : rSl (et 26 (et 26 a0)) 0 = rSl a0 0 := by kernel_rfl
  have ht : rTake (rSl a0 1) (rLen (rSl a0 1)) = rSl a0 1 := by unfold rTake rLen; simp
  unfold spread_look.v
  rw [hk, hd, hn, hs]
  dsimp only [slices_Clone_api_Pod_api_Pod.vm]
  rw [ht]
  have hr := del_v (rSl a0 1) (ref13_KeyOf.v (et 32 a1)) hN
  generalize rTake (slices_DeleteFunc_api_Pod_api_Pod_c89.v (rSl a0 1) [.str (ref13_KeyOf.v (et 32 a1))]).1 (slices_DeleteFunc_api_Pod_api_Pod_c89.v (rSl a0 1) [.str (ref13_KeyOf.v (et 32 a1))]).2 = rest at *
  rw [cOf_of a0 a1 q (et 26 (et 26 a0)) rest _ _ hv hr]
  cases (dm (rStr q 1) a2).2 <;> rfl
theorem ix_neg {x : Int} (h : x = -1) : iLt x 0 = true := by rw [h]; rfl
theorem ix_pos {x : Int} (h : 0 ≤ x) : iLt x 0 = false := decide_eq_false (by omega)
theorem ix_le {x : Int} (h : 0 ≤ x) : iLe 0 x = true := decide_eq_true h
theorem cOf_eq (a0 a1 q : Row) : ref37_Counts.v (et 26 (et 26 (ref37_others.v (et 26 a0) (ref13_KeyOf.v (et 32 a1))))) (rStr (et 45 a1) 1) (et 112 q) = cOf a0 a1 q := by kernel_rfl
theorem dm_eq (a2 : Row) (t : ByteArray) : ref36_Domain.v (et 51 (et 51 a2)) t = dm t a2 := by kernel_rfl
theorem scoreV (a0 a1 a2 : Row) (hN : (rSl a0 1).length ≤ 1048576) : spread_Score.v a0 a1 a2 = ref37_Score.v a0 a1 a2 := by
  have h21 : rSl (et 45 a1) 21 = rSl a1 21 := by kernel_rfl
  show walk (spread_Score.p3 (et 26 a0) (et 45 a1) (et 51 a2)) spread_Score.z3 (rSl a1 21) 0 0 = walk (ref37_Score.p4 (et 45 a1) (et 51 a2) (et 26 (ref37_others.v (et 26 a0) (ref13_KeyOf.v (et 32 a1))))) ref37_Score.z4 (rSl (et 45 a1) 21) 0 0
  rw [h21]
  refine walk_rel (Rel := fun x y => x = y ∧ iAdd .i64 x 0 = x) (Q := fun x y => x = y) (fun i j q x y _ hxy => ?_) (fun x y h => h.1) ⟨rfl, rfl⟩
  obtain ⟨rfl, hx⟩ := hxy
  refine Or.inl ?_
  unfold spread_Score.p3 ref37_Score.p4
  rw [lookV a0 a1 a2 q hN, cOf_eq, dm_eq]
  generalize hd : dm (rStr q 1) a2 = d
  cases rBool q 3 with
  | true => exact ⟨x, x, rfl, rfl, rfl, hx⟩
  | false =>
    dsimp only
    cases d.2 with
    | false => exact ⟨_, _, rfl, rfl, rfl, wrap0 _ _⟩
    | true =>
      dsimp only [cond_true]
      rcases look_v (cOf a0 a1 q) d.1 (counts_keys _ _ _) with ⟨h1, h2, h3⟩ | ⟨h1, h2, h3, h4⟩
      · rw [h1, h3]
        exact ⟨x, _, rfl, rfl, hx.symm, hx⟩
      · rw [ix_le h1, h3]
        exact ⟨_, _, rfl, rfl, rfl, wrap0 _ _⟩
end
end Go.Proofs.YtilppppcafphbaaGreat.Ev
