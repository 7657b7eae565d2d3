/- The plain laws of score: Spare, Balance, Total. Conditions: stated at each. -/
import Derived.Test.YtilppppcafphbaaGreatL39c
namespace Go.Proofs.YtilppppcafphbaaGreat.Ev
open Go Go.RowKit
set_option linter.unusedVariables false
set_option linter.unusedSimpArgs false
set_option maxRecDepth 100000
noncomputable section
theorem rclampV (a : Int) : resource_clamp.v a = ref02_clamp.v a := by
  show iMin (iMax a 0) 1000000000000000 = iMin 1000000000000000 (iMax 0 a)
  unfold iMin iMax
  split <;> split <;> (try split) <;> (try split) <;> omega
def addR (f : Int → Int) (a b : Row) : Row := [.int .i64 (f (iAdd .i64 (f (rInt a 0)) (f (rInt b 0)))), .int .i64 (f (iAdd .i64 (f (rInt a 1)) (f (rInt b 1)))), .int .i64 (f (iAdd .i64 (f (rInt a 2)) (f (rInt b 2))))]
def subR (f : Int → Int) (a b : Row) : Row := [.int .i64 (f (iSub .i64 (f (rInt a 0)) (f (rInt b 0)))), .int .i64 (f (iSub .i64 (f (rInt a 1)) (f (rInt b 1)))), .int .i64 (f (iSub .i64 (f (rInt a 2)) (f (rInt b 2))))]
theorem addV (a b : Row) : resource_Add.v a b = ref02_Add.v a b := by
  have e1 : resource_Add.v a b = addR resource_clamp.v a b := by kernel_rfl
  have e2 : ref02_Add.v a b = addR ref02_clamp.v a b := by kernel_rfl
  rw [e1, e2, show resource_clamp.v = ref02_clamp.v from funext rclampV]
theorem subV (a b : Row) : resource_Sub.v a b = ref02_Sub.v a b := by
  have e1 : resource_Sub.v a b = subR resource_clamp.v a b := by kernel_rfl
  have e2 : ref02_Sub.v a b = subR ref02_clamp.v a b := by kernel_rfl
  rw [e1, e2, show resource_clamp.v = ref02_clamp.v from funext rclampV]
theorem reqV (r : Row) : resource_Requests.v r = ref02_Requests.v r := by
  have e1 : resource_Requests.v r = et 47 (walk resource_Requests.p3 resource_Requests.z3 (rSl r 4) 0 [.int .i64 0, .int .i64 0, .int .i64 0]) := by kernel_rfl
  have e2 : ref02_Requests.v r = et 47 (walk ref02_Requests.p3 ref02_Requests.z3 (rSl r 4) 0 [.int .i64 0, .int .i64 0, .int .i64 0]) := by kernel_rfl
  rw [e1, e2]
  congr 1
  refine walk_congr (fun i q x _ => ?_) (fun x => rfl)
  unfold resource_Requests.p3 ref02_Requests.p3
  rw [addV]
theorem occV (q : Row) (s : ByteArray) : ref38_Occupies.v (et 45 q) s = bIte (sEq (rStr q 13) s) (bIte (iEq (rInt q 23) 0) true (iEq (rInt q 23) 1)) false := by kernel_rfl
/-- What is used of a node: the same row. -/
theorem usedV (es : Rows) (n : Row) (i j : Int) (x y : Int × Row) (h : et 47 x.2 = et 47 y.2) : (walk (filter_room.p4 n) filter_room.z4 es i x).2 = (walk (ref38_free.p3 n) ref38_free.z3 es j y).2 := by
  refine walk_rel (Rel := fun (x y : Int × Row) => et 47 x.2 = et 47 y.2) (Q := fun (x y : Int × Row) => x.2 = y.2) (fun i j q x y _ hxy => Or.inl ?_) (fun x y h => h) h
  unfold filter_room.p4 ref38_free.p3
  rw [occV]
  cases bIte (sEq (rStr q 13) (rStr n 2)) (bIte (iEq (rInt q 23) 0) true (iEq (rInt q 23) 1)) false with
  | true =>
    refine ⟨_, _, rfl, rfl, ?_⟩
    show et 47 (et 47 (resource_Add.v (et 47 x.2) (et 47 (resource_Requests.v (eo 40 q 13))))) = et 47 (ref02_Add.v (et 47 y.2) (et 47 (ref02_Requests.v (eo 40 q 13))))
    rw [addV, reqV, hxy]
    have e3 : ∀ a : Row, et 47 (et 47 a) = et 47 a := fun a => by kernel_rfl
    exact e3 _
  | false =>
    refine ⟨_, _, rfl, rfl, ?_⟩
    show et 47 (et 47 x.2) = et 47 (et 47 y.2)
    rw [hxy]
theorem roomV (es : Rows) (n : Row) : (filter_room.v es n).1 = (ref38_free.v es n).1 := by
  have hu := usedV es (et 51 n) 0 0 (iMax (rInt n 16) 0, [.int .i64 0, .int .i64 0, .int .i64 0]) (0, [.int .i64 0, .int .i64 0, .int .i64 0]) rfl
  have e1 : (filter_room.v es n).1 = et 47 (resource_Sub.v (eo 47 n 13) (et 47 (walk (filter_room.p4 (et 51 n)) filter_room.z4 es 0 (iMax (rInt n 16) 0, [.int .i64 0, .int .i64 0, .int .i64 0])).2)) := rfl
  have e2 : (ref38_free.v es n).1 = et 47 (ref02_Sub.v (eo 47 n 13) (et 47 (walk (ref38_free.p3 (et 51 n)) ref38_free.z3 es 0 (0, [.int .i64 0, .int .i64 0, .int .i64 0])).2)) := by
    show (bif iLe (rInt n 16) (ref38_free.w3 es (et 51 n) (0, [.int .i64 0, .int .i64 0, .int .i64 0])).1 then _ else _ : Row × Int).1 = _
    cases iLe (rInt n 16) (ref38_free.w3 es (et 51 n) (0, [.int .i64 0, .int .i64 0, .int .i64 0])).1 <;> rfl
  rw [e1, e2, subV, hu]
/-- A search that tells the place of the first that c says. -/
theorem walk_where {X R : Type} {p : Int → Row → X → X ⊕ (Int ⊕ R)} {z : X → Int ⊕ R} (c : Row → Bool) (x : X) (u : R) (hp : ∀ i q, p i q x = bif c q then .inr (.inl i) else .inl x) (hz : z x = .inr u) : ∀ (es : Rows) (i : Int),
    (walk p z es i x = .inr u ∧ es.find? c = none) ∨ ∃ k : Nat, walk p z es i x = .inl (i + k) ∧ k < es.length ∧ es.find? c = es[k]?
  | [], i => Or.inl ⟨hz, rfl⟩
  | q :: es, i => by
    simp only [walk]
    rw [hp i q, List.find?_cons]
    cases hc : c q with
    | true => exact Or.inr ⟨0, by simp, by simp, by simp⟩
    | false =>
      show (walk p z es (i + 1) x = _ ∧ _) ∨ ∃ k : Nat, walk p z es (i + 1) x = _ ∧ _
      rcases walk_where c x u hp hz es (i + 1) with ⟨h1, h2⟩ | ⟨k, h1, h2, h3⟩
      · exact Or.inl ⟨h1, h2⟩
      · refine Or.inr ⟨k + 1, ?_, by simp; omega, ?_⟩
        · rw [h1]; congr 1; omega
        · rw [List.getElem?_cons_succ]; exact h3
theorem free1V (q : Row) (s : ByteArray) : filter_Free_1.v (et 51 q) [.str s] = sEq (rStr q 2) s := by kernel_rfl
theorem at_nat (es : Rows) (k : Nat) (h : k < es.length) : rAt es (0 + (k : Int)) = es[k] := by
  unfold rAt
  rw [Int.zero_add, Int.toNat_natCast, List.getD_eq_getElem?_getD, List.getElem?_eq_getElem h]; rfl
theorem freeV (v : Row) (s : ByteArray) : (filter_Free.v v s).1 = (ref38_Free.v v s).1 := by
  have e2 : ref38_Free.v v s = Sum.elim (fun r0 => (et 47 r0.2, r0.1)) (fun r1 => ([.int .i64 0, .int .i64 0, .int .i64 0], 0)) (match (rSl v 0).find? (fun q => sEq (rStr q 2) s) with | some q => Sum.inl ((ref38_free.v (rSl v 1) (et 51 q)).2, et 47 (ref38_free.v (rSl v 1) (et 51 q)).1) | none => Sum.inr ()) := by
    have h0 : ref38_Free.v v s = Sum.elim (fun r0 => (et 47 r0.2, r0.1)) (fun r1 => ([.int .i64 0, .int .i64 0, .int .i64 0], 0)) (walk (ref38_Free.p2 s (et 26 v)) ref38_Free.z2 (rSl v 0) 0 ()) := by kernel_rfl
    rw [h0]
    congr 1
    have h1 := walk_find (p := ref38_Free.p2 s (et 26 v)) (z := ref38_Free.z2) (fun q => sEq (rStr q 2) s) (fun q => Sum.inl ((ref38_free.v (rSl v 1) (et 51 q)).2, et 47 (ref38_free.v (rSl v 1) (et 51 q)).1)) (es := rSl v 0) (i := 0) (fun i q _ => by
      have e3 : rSl (et 26 v) 1 = rSl v 1 := by kernel_rfl
      unfold ref38_Free.p2
      rw [e3])
    rw [h1]
    cases (rSl v 0).find? _ <;> rfl
  have e1 : filter_Free.v v s = bif iLt (Sum.elim (fun r0 => r0) (fun r1 => (-1)) (walk slices_IndexFunc_api_Node_api_Node_c71.p2 slices_IndexFunc_api_Node_api_Node_c71.z2 (rSl v 0) 0 [.str s])) 0 then ([.int .i64 0, .int .i64 0, .int .i64 0], 0) else
      (let r1 := filter_room.v (rSl v 1) (et 51 (rAt (rSl v 0) (Sum.elim (fun r0 => r0) (fun r1 => (-1)) (walk slices_IndexFunc_api_Node_api_Node_c71.p2 slices_IndexFunc_api_Node_api_Node_c71.z2 (rSl v 0) 0 [.str s])))); (et 47 r1.1, r1.2)) := rfl
  rw [e1, e2]
  rcases walk_where (p := slices_IndexFunc_api_Node_api_Node_c71.p2) (z := slices_IndexFunc_api_Node_api_Node_c71.z2) (fun q => sEq (rStr q 2) s) [.str s] () (fun i q => by
      unfold slices_IndexFunc_api_Node_api_Node_c71.p2
      show (bif filter_Free_1.v (et 51 q) [.str s] then _ else _) = _
      rw [free1V]; rfl) rfl (rSl v 0) 0 with ⟨h1, h2⟩ | ⟨k, h1, h2, h3⟩
  · rw [h1, h2]; rfl
  · rw [h1, h3, List.getElem?_eq_getElem h2]
    have hk : iLt (0 + (k : Int)) 0 = false := decide_eq_false (by omega)
    show (bif iLt (0 + (k : Int)) 0 then _ else _ : Row × Int).1 = et 47 (et 47 (ref38_free.v (rSl v 1) (et 51 (rSl v 0)[k])).1)
    rw [hk]
    show et 47 (filter_room.v (rSl v 1) (et 51 (rAt (rSl v 0) (0 + (k : Int))))).1 = _
    rw [at_nat _ _ h2, roomV]
    have e3 : ∀ a : Row, et 47 (et 47 a) = et 47 a := fun a => by kernel_rfl
    exact (e3 _).symm
theorem shareV (f c : Int) : score_share.v f c = ref39_share.v f c := by
  show (bif iLe (iMin c 1000000000000000) 0 then 0 else iMin (iMax (iQuo .i64 (iMul .i64 100 f) (iMin c 1000000000000000)) 0) 100) = (bif iLe c 0 then 0 else iMin (iMax (iQuo .i64 (iMul .i64 100 f) (iMin (iMax c 1) 1000000000000000)) 0) 100)
  by_cases h : c ≤ 0
  · have h1 : iMin c 1000000000000000 ≤ 0 := by unfold iMin; split <;> omega
    rw [show iLe (iMin c 1000000000000000) 0 = true from decide_eq_true h1, show iLe c 0 = true from decide_eq_true h]
    rfl
  · have h1 : ¬ iMin c 1000000000000000 ≤ 0 := by unfold iMin; split <;> omega
    have h2 : iMax c 1 = c := by unfold iMax; split <;> omega
    rw [show iLe (iMin c 1000000000000000) 0 = false from decide_eq_false h1, show iLe c 0 = false from decide_eq_false h, h2]
theorem share_range (f c : Int) : 0 ≤ score_share.v f c ∧ score_share.v f c ≤ 100 := by
  show 0 ≤ (bif iLe (iMin c 1000000000000000) 0 then 0 else iMin (iMax (iQuo .i64 (iMul .i64 100 f) (iMin c 1000000000000000)) 0) 100) ∧ (bif iLe (iMin c 1000000000000000) 0 then 0 else iMin (iMax (iQuo .i64 (iMul .i64 100 f) (iMin c 1000000000000000)) 0) 100) ≤ 100
  cases iLe (iMin c 1000000000000000) 0 with
  | true => exact ⟨Int.le_refl _, (by show (0 : Int) ≤ 100; decide)⟩
  | false =>
    generalize iQuo .i64 (iMul .i64 100 f) (iMin c 1000000000000000) = x
    show 0 ≤ iMin (iMax x 0) 100 ∧ iMin (iMax x 0) 100 ≤ 100
    unfold iMin iMax
    split <;> (try split) <;> omega
theorem sharesV (v p n : Row) : score_shares.v v p n = ref39_shares.v v p n := by
  have e1 : score_shares.v v p n = (score_share.v (rInt (resource_Sub.v (et 47 (filter_Free.v (et 26 v) (rStr n 2)).1) (et 47 (resource_Requests.v (eo 40 p 13)))) 0) (rInt n 13), score_share.v (rInt (resource_Sub.v (et 47 (filter_Free.v (et 26 v) (rStr n 2)).1) (et 47 (resource_Requests.v (eo 40 p 13)))) 1) (rInt n 14)) := rfl
  have e2 : ref39_shares.v v p n = (ref39_share.v (rInt (ref02_Sub.v (et 47 (ref38_Free.v (et 26 v) (rStr n 2)).1) (et 47 (ref02_Requests.v (eo 40 p 13)))) 0) (rInt n 13), ref39_share.v (rInt (ref02_Sub.v (et 47 (ref38_Free.v (et 26 v) (rStr n 2)).1) (et 47 (ref02_Requests.v (eo 40 p 13)))) 1) (rInt n 14)) := rfl
  rw [e1, e2, freeV, reqV, subV, shareV, shareV]
theorem shares_range (v p n : Row) : (0 ≤ (score_shares.v v p n).1 ∧ (score_shares.v v p n).1 ≤ 100) ∧ 0 ≤ (score_shares.v v p n).2 ∧ (score_shares.v v p n).2 ≤ 100 :=
  ⟨share_range _ _, share_range _ _⟩
theorem spareV (v p n : Row) : score_Spare.v v p n = ref39_Spare.v v p n := by
  show iQuo .i64 (iAdd .i64 (score_shares.v (et 26 v) (et 45 p) (et 51 n)).1 (score_shares.v (et 26 v) (et 45 p) (et 51 n)).2) 2 = iQuo .i64 (iAdd .i64 (ref39_shares.v (et 26 v) (et 45 p) (et 51 n)).1 (ref39_shares.v (et 26 v) (et 45 p) (et 51 n)).2) 2
  rw [sharesV]
theorem iAdd_in {a b : Int} (h : -1000000 ≤ a + b) (k : a + b ≤ 1000000) : iAdd .i64 a b = a + b := by unfold iAdd; exact IntWalk.i64_in _ (by omega)
theorem iSub_in' {a b : Int} (h : -1000000 ≤ a - b) (k : a - b ≤ 1000000) : iSub .i64 a b = a - b := by unfold iSub; exact IntWalk.i64_in _ (by omega)
theorem balanceV (v p n : Row) : score_Balance.v v p n = ref39_Balance.v v p n := by
  show iSub .i64 100 (iMax (iSub .i64 (score_shares.v (et 26 v) (et 45 p) (et 51 n)).1 (score_shares.v (et 26 v) (et 45 p) (et 51 n)).2) (iSub .i64 (score_shares.v (et 26 v) (et 45 p) (et 51 n)).2 (score_shares.v (et 26 v) (et 45 p) (et 51 n)).1)) = (bif iLt (ref39_shares.v (et 26 v) (et 45 p) (et 51 n)).2 (ref39_shares.v (et 26 v) (et 45 p) (et 51 n)).1 then iAdd .i64 (iSub .i64 100 (ref39_shares.v (et 26 v) (et 45 p) (et 51 n)).1) (ref39_shares.v (et 26 v) (et 45 p) (et 51 n)).2 else iAdd .i64 (iSub .i64 100 (ref39_shares.v (et 26 v) (et 45 p) (et 51 n)).2) (ref39_shares.v (et 26 v) (et 45 p) (et 51 n)).1)
  rw [← sharesV]
  obtain ⟨⟨a1, a2⟩, b1, b2⟩ := shares_range (et 26 v) (et 45 p) (et 51 n)
  generalize (score_shares.v (et 26 v) (et 45 p) (et 51 n)).1 = a at *
  generalize (score_shares.v (et 26 v) (et 45 p) (et 51 n)).2 = b at *
  rw [iSub_in' (a := a) (b := b) (by omega) (by omega), iSub_in' (a := b) (b := a) (by omega) (by omega), iSub_in' (a := 100) (b := a) (by omega) (by omega), iSub_in' (a := 100) (b := b) (by omega) (by omega), iAdd_in (a := 100 - a) (b := b) (by omega) (by omega), iAdd_in (a := 100 - b) (b := a) (by omega) (by omega)]
  by_cases h : b < a
  · rw [show iLt b a = true from decide_eq_true h]
    have hm : iMax (a - b) (b - a) = a - b := by unfold iMax; split <;> omega
    rw [hm, iSub_in' (by omega) (by omega)]
    show 100 - (a - b) = 100 - a + b
    omega
  · rw [show iLt b a = false from decide_eq_false h]
    have hm : iMax (a - b) (b - a) = b - a := by unfold iMax; split <;> omega
    rw [hm, iSub_in' (by omega) (by omega)]
    show 100 - (b - a) = 100 - b + a
    omega
theorem tolV (q t : Row) : taint_tolerated_1.v q t = ref35_Tolerates.v (et 147 q) (et 72 t) := by kernel_rfl
theorem toleratedV (x : Row) (l : Rows) : taint_tolerated.v x l = l.any (fun q => ref35_Tolerates.v (et 147 q) (et 72 x)) := by
  have e1 : taint_tolerated.v x l = iLe 0 (Sum.elim (fun r0 => r0) (fun r1 => (-1)) (walk (slices_IndexFunc_api_Toleration_api_Toleration_c85.p2 (et 72 x)) slices_IndexFunc_api_Toleration_api_Toleration_c85.z2 l 0 ())) := by kernel_rfl
  rw [e1]
  have e2 : ∀ q, taint_tolerated_1.v (et 147 q) (et 72 (et 72 x)) = ref35_Tolerates.v (et 147 q) (et 72 x) := fun q => by kernel_rfl
  rcases walk_where (p := slices_IndexFunc_api_Toleration_api_Toleration_c85.p2 (et 72 x)) (z := slices_IndexFunc_api_Toleration_api_Toleration_c85.z2) (fun q => ref35_Tolerates.v (et 147 q) (et 72 x)) () () (fun i q => by
      unfold slices_IndexFunc_api_Toleration_api_Toleration_c85.p2
      show (bif taint_tolerated_1.v (et 147 q) (et 72 (et 72 x)) then _ else _) = _
      rw [e2]) rfl l 0 with ⟨h1, h2⟩ | ⟨k, h1, h2, h3⟩
  · rw [h1]
    have : l.any (fun q => ref35_Tolerates.v (et 147 q) (et 72 x)) = false := by
      rw [List.any_eq_false]
      exact List.find?_eq_none.1 h2
    rw [this]; rfl
  · rw [h1]
    have : l.any (fun q => ref35_Tolerates.v (et 147 q) (et 72 x)) = true := by
      rw [List.any_eq_true]
      rw [List.getElem?_eq_getElem h2] at h3
      exact ⟨_, List.mem_of_find?_eq_some h3, List.find?_some (p := fun q => ref35_Tolerates.v (et 147 q) (et 72 x)) h3⟩
    rw [this]
    exact decide_eq_true (by show (0 : Int) ≤ 0 + (k : Int); omega)
theorem matchV (x : Row) (l : Rows) : ref35_matching.v x l = l.filterMap (fun q => bif ref35_Tolerates.v (et 147 q) (et 72 x) then some (et 147 q) else none) := by
  have e1 : ref35_matching.v x l = walk (ref35_matching.p3 (et 72 x)) ref35_matching.z3 l 0 [] := rfl
  have e2 : ∀ q, ref35_Tolerates.v (et 147 q) (et 72 (et 72 x)) = ref35_Tolerates.v (et 147 q) (et 72 x) := fun q => by kernel_rfl
  rw [e1]
  refine (walk_gather (p := ref35_matching.p3 (et 72 x)) (z := ref35_matching.z3) (fun q => bif ref35_Tolerates.v (et 147 q) (et 72 x) then some (et 147 q) else none) (fun i q y _ => ?_)).trans (List.nil_append _)
  unfold ref35_matching.p3
  rw [e2]
  cases ref35_Tolerates.v (et 147 q) (et 72 x) <;> rfl
theorem noneV (x : Row) (l : Rows) : bNot (taint_tolerated.v x l) = iEq (rLen (ref35_matching.v x l)) 0 := by
  rw [toleratedV, matchV]
  cases h : l.any (fun q => ref35_Tolerates.v (et 147 q) (et 72 x)) with
  | true =>
    rw [List.any_eq_true] at h
    obtain ⟨q, hq, hc⟩ := h
    have : et 147 q ∈ l.filterMap (fun q => bif ref35_Tolerates.v (et 147 q) (et 72 x) then some (et 147 q) else none) := List.mem_filterMap.2 ⟨q, hq, by rw [hc]; rfl⟩
    refine (beq_eq_false_iff_ne.2 ?_).symm
    unfold rLen
    have := List.length_pos_of_mem this
    omega
  | false =>
    rw [List.any_eq_false] at h
    have : l.filterMap (fun q => bif ref35_Tolerates.v (et 147 q) (et 72 x) then some (et 147 q) else none) = [] := by
      rw [List.filterMap_eq_nil_iff]
      intro q hq
      have := h q hq
      cases hc : ref35_Tolerates.v (et 147 q) (et 72 x) with
      | true => exact absurd hc this
      | false => rfl
    rw [this]; rfl
theorem softV (x t : Rows) : taint_Soft.v x t = ref35_Soft.v x t := by
  show walk (taint_Soft.p3 t) taint_Soft.z3 x 0 0 = walk (ref35_Soft.p3 t) ref35_Soft.z3 x 0 0
  refine walk_congr (fun i q y _ => ?_) (fun y => rfl)
  unfold taint_Soft.p3 ref35_Soft.p3
  have h := noneV (et 72 q) t
  cases iEq (rInt q 2) 2 with
  | false => rfl
  | true =>
    show (bif bIte true (bNot (taint_tolerated.v (et 72 q) t)) false then _ else _) = (bif bIte true (iEq (rLen (ref35_matching.v (et 72 q) t)) 0) false then _ else _)
    rw [h]
theorem clampV (a b c : Int) : score_clamp.v a b c = ref01_Clamp.v a b c := rfl
theorem wrap_i64 (n : Int) : IntKind.i64.wrap n = (n + 9223372036854775808) % 18446744073709551616 - 9223372036854775808 := by
  have e : IntKind.i64.wrap n = if n % 18446744073709551616 ≥ 9223372036854775808 then n % 18446744073709551616 - 18446744073709551616 else n % 18446744073709551616 := by
    unfold IntKind.wrap
    simp [IntKind.bits, IntKind.signed]
  rw [e]
  split <;> omega
theorem wrap_sub (x y z : Int) : iSub .i64 x (iAdd .i64 y z) = iSub .i64 (iSub .i64 x y) z := by
  unfold iSub iAdd
  simp only [wrap_i64]
  omega
theorem totalV (v p n : Row) (hN : (rSl v 1).length ≤ 1048576) : score_Total.v v p n = ref39_Total.v v p n := by
  have hN' : (rSl (et 26 v) 1).length ≤ 1048576 := by
    have e : rSl (et 26 v) 1 = rSl v 1 := by kernel_rfl
    rw [e]; exact hN
  have e1 : score_Total.v v p n = iSub .i64 (iAdd .i64 (iAdd .i64 (score_Spare.v (et 26 v) (et 45 p) (et 51 n)) (score_Balance.v (et 26 v) (et 45 p) (et 51 n))) (score_clamp.v (affinity_Preference.v (et 26 v) (et 45 p) (et 51 n)) (-100) 100)) (iAdd .i64 (iMul .i64 10 (taint_Soft.v (rSl n 18) (rSl p 22))) (iMul .i64 5 (spread_Score.v (et 26 v) (et 45 p) (et 51 n)))) := rfl
  have e2 : ref39_Total.v v p n = iSub .i64 (iSub .i64 (iAdd .i64 (iAdd .i64 (ref39_Spare.v (et 26 v) (et 45 p) (et 51 n)) (ref39_Balance.v (et 26 v) (et 45 p) (et 51 n))) (ref01_Clamp.v (ref36_Preference.v (et 26 v) (et 45 p) (et 51 n)) (-100) 100)) (iMul .i64 10 (ref35_Soft.v (rSl n 18) (rSl p 22)))) (iMul .i64 5 (ref37_Score.v (et 26 v) (et 45 p) (et 51 n))) := rfl
  rw [e1, e2, spareV, balanceV, preferenceV, softV, scoreV _ _ _ hN', clampV, wrap_sub]
end
end Go.Proofs.YtilppppcafphbaaGreat.Ev
