/- Plain values of the printed functions. Conditions: stated at each. -/
import Derived.Test.YtilppppcafphbaaGreatPw
import Derived.Test.YtilppppcafphbaaGreatE1
import Derived.Test.YtilppppcafphbaaGreatPf
import Derived.Test.YtilppppcafphbaaGreatWk
import Derived.Test.YtilppppcafphbaaGreatMp
namespace Go.Proofs.YtilppppcafphbaaGreat.Ev
open Go Go.RowKit
set_option linter.unusedVariables false
set_option maxRecDepth 100000
noncomputable section
namespace law36_SmallNode
noncomputable def v (a0 : Row) : Bool := lim (fun k => (f k a0).eval)
theorem val (a0 : Row) (ha0 : Br a0) : DV (fun k => (f k a0).eval) (v a0) Pt := DV.lim (dd a0 ha0)
end law36_SmallNode
namespace law39_small
noncomputable def v (a0 : Row) (a1 : Row) (a2 : Rows) : Bool := lim (fun k => (f k a0 a1 a2).eval)
theorem val (a0 : Row) (a1 : Row) (a2 : Rows) (ha0 : Br a0) (ha1 : Br a1) (ha2 : Brs a2) : DV (fun k => (f k a0 a1 a2).eval) (v a0 a1 a2) Pt := DV.lim (dd a0 a1 a2 ha0 ha1 ha2)
end law39_small
namespace ref13_Key
def v (a0 : ByteArray) (a1 : ByteArray) (a2 : ByteArray) : ByteArray := (sCat (sCat (sCat (sCat a0 (bs [47])) a1) (bs [47])) a2)
theorem val (a0 : ByteArray) (a1 : ByteArray) (a2 : ByteArray) (ha0 : Sz 1048576 a0) (ha1 : Sz 1048576 a1) (ha2 : Sz 1048576 a2) : DV (fun k => (f k a0 a1 a2).eval) (v a0 a1 a2) (Sz 3145730) := (DG.tt (sOk_sz ha0 (@Nat.le_of_ble_eq_true _ 1 rfl) (by decide)) (DG.tt (sOk_sz (sz_cat ha0 (@Nat.le_of_ble_eq_true _ 1 rfl)) ha1 (by decide)) (DG.tt (sOk_sz (sz_cat (sz_cat ha0 (@Nat.le_of_ble_eq_true _ 1 rfl)) ha1) (@Nat.le_of_ble_eq_true _ 1 rfl) (by decide)) (DG.tt (sOk_sz (sz_cat (sz_cat (sz_cat ha0 (@Nat.le_of_ble_eq_true _ 1 rfl)) ha1) (@Nat.le_of_ble_eq_true _ 1 rfl)) ha2 (by decide)) (DG.ret (sz_cat (sz_cat (sz_cat (sz_cat ha0 (@Nat.le_of_ble_eq_true _ 1 rfl)) ha1) (@Nat.le_of_ble_eq_true _ 1 rfl)) ha2))))))
end ref13_Key
namespace ref13_KeyOf
def v (a0 : Row) : ByteArray := (let r0 := (ref13_Key.v (rStr a0 0) (rStr a0 1) (rStr a0 2)); r0)
theorem val (a0 : Row) (ha0 : Br a0) : DV (fun k => (f k a0).eval) (v a0) (Sz 3145730) := (DG.bnd (ref13_Key.val _ _ _ (Br.str ha0 _) (Br.str ha0 _) (Br.str ha0 _)) (fun hr0 => (DG.ret hr0)))
end ref13_KeyOf
namespace law36_Distinct
noncomputable def v (a0 : Rows) : Bool := lim (fun k => (f k a0).eval)
theorem val (a0 : Rows) (ha0 : Brs a0) : DV (fun k => (f k a0).eval) (v a0) Pt := DV.lim (dd a0 ha0)
end law36_Distinct
namespace slices_Values_string_string
def v (a0 : Rows) : Rows := a0
theorem val (a0 : Rows) (ha0 : Brs a0) : DV (fun k => (f k a0).eval) (v a0) Brs := (DG.ret ha0)
end slices_Values_string_string
namespace slices_Sorted_string
def v (a0 : Rows) : Rows × Int := (sortC a0, rLen a0)
theorem brs_sort {a0 : Rows} (h : Brs a0) : Brs (sortC a0) := ⟨by rw [(sortC_perm a0).length_eq]; exact h.1, fun q hq => h.2 q ((sortC_perm a0).subset hq)⟩
theorem val (a0 : Rows) (ha0 : Brs a0) : DV (fun k => (f k a0).eval) (v a0) (Pp Brs Pt) := DG.tt (rOk_new (by decide) ha0) (DG.ret ⟨brs_sort ha0, trivial⟩)
end slices_Sorted_string
namespace slices_Compact_string_string
def v (a0 : Rows) : Rows × Int := (zq a0, rLen (cq a0))
theorem uq_mem {q : Row} : ∀ {es : Rows} {s : ByteArray}, q ∈ uq s es → q ∈ es
  | [], s, h => h
  | a :: l, s, h => by
    unfold uq at h
    cases he : sEq (rStr a 0) s with
    | true => rw [he] at h; exact List.mem_cons_of_mem _ (uq_mem h)
    | false =>
      rw [he] at h
      rcases List.mem_cons.1 h with rfl | h
      · exact List.mem_cons_self ..
      · exact List.mem_cons_of_mem _ (uq_mem h)
theorem cq_mem {q : Row} {es : Rows} (h : q ∈ cq es) : q ∈ es := by
  cases es with
  | nil => exact h
  | cons a l =>
    rcases List.mem_cons.1 h with rfl | h
    · exact List.mem_cons_self ..
    · exact List.mem_cons_of_mem _ (uq_mem h)
theorem brs_zq {a0 : Rows} (h : Brs a0) : Brs (zq a0) := by
  refine ⟨by rw [zq_eq, uqZ_len]; exact h.1, fun q hq => ?_⟩
  rcases List.mem_append.1 hq with hq | hq
  · exact h.2 q (cq_mem hq)
  · rw [List.eq_of_mem_replicate hq]
    exact br_cons (brc_str (by decide)) br_nil
theorem val (a0 : Rows) (ha0 : Brs a0) : DV (fun k => (f k a0).eval) (v a0) (Pp Brs Pt) := DG.tt (rOk_new (by decide) ha0) (DG.ret ⟨brs_zq ha0, trivial⟩)
end slices_Compact_string_string
namespace score_Best_1
def v (a0 : Row) (a1 : Row) : Bool := (sEq (rStr a0 2) (rStr a1 0))
theorem val (a0 : Row) (a1 : Row) : DV (fun k => (f k a0 a1).eval) (v a0 a1) Pt := (DG.ret trivial)
end score_Best_1
namespace slices_IndexFunc_api_Node_api_Node_c38
def p2 (i : Int) (q : Row) (x : Row) : (Row) ⊕ (Int ⊕ Unit) := (let r0 := (score_Best_1.v (et 51 q) [.str (rStr x 0)]); (bif r0 then (.inr (.inl i)) else (.inl [.str (rStr x 0)])))
def z2 (x : Row) : Int ⊕ Unit := (.inr ())
def w2 (c0 : Rows) (x0 : Row) : Int ⊕ Unit := walk p2 z2 c0 0 x0
def v (a0 : Rows) (a1 : Row) : Int := (Sum.elim (fun r0 => r0) (fun r1 => (-1)) (slices_IndexFunc_api_Node_api_Node_c38.w2 a0 [.str (rStr a1 0)]))
theorem w2_v (c0 : Rows) (c1 : Int) (hc0 : Brs c0) (ec1 : c1 = rLen c0) (x0 : Row) (h0 : True) : DV (fun k => iter (s2 k c0 c1) k ((fun (x : Row) (i : Int) => (x, i)) x0 0)) (w2 c0 x0) (Ps Pt Pt) := by
  subst ec1; refine DV.walk (fun (x : Row) (i : Int) => (x, i)) hc0.1 p2 z2 (fun (i : Int) (x : Row) => True) (Ps Pt Pt) (fun i x hp hi hI => ?_) (fun i x hie hi hI => ?_) x0 h0
  · have hlt := lt_of hc0.1 hi
    have hle := Int.le_of_lt hlt
    have hin := iIn_lt hp hi
    exact DG.tt hi (DG.tt hin (DG.bnd (score_Best_1.val _ _) (fun hr0 => (DG.test (fun h_2 => (DG.inr rfl trivial)) (fun h_2 => (DG.inl rfl trivial))))))
  · have hle := eq_le hc0.1 hie
    exact DG.ff hi (DG.ex rfl trivial)
theorem val (a0 : Rows) (a1 : Row) (ha0 : Brs a0) : DV (fun k => (f k a0 a1).eval) (v a0 a1) Pt := (DG.cas (slices_IndexFunc_api_Node_api_Node_c38.w2_v _ _ ha0 rfl _ trivial) (fun r0 hr0 => (DG.ret trivial)) (fun r1 hr1 => (DG.ret trivial)))
end slices_IndexFunc_api_Node_api_Node_c38
theorem slices_IndexFunc_api_Node_api_Node_c38.lt (a0 : Rows) (a1 : Row) : slices_IndexFunc_api_Node_api_Node_c38.v a0 a1 < rLen a0 := by
  have h0 : 0 ≤ rLen a0 := by unfold rLen; omega
  show Sum.elim (fun r0 => r0) (fun r1 => -1) (walk slices_IndexFunc_api_Node_api_Node_c38.p2 slices_IndexFunc_api_Node_api_Node_c38.z2 a0 0 [.str (rStr a1 0)]) < _
  rcases walk_index (p := slices_IndexFunc_api_Node_api_Node_c38.p2) (z := slices_IndexFunc_api_Node_api_Node_c38.z2) (es := a0) (i := 0) (x := [.str (rStr a1 0)]) (fun i q x => by
    unfold slices_IndexFunc_api_Node_api_Node_c38.p2
    generalize score_Best_1.v _ _ = b
    cases b
    · exact Or.inl ⟨_, rfl⟩
    · exact Or.inr rfl) (fun x => ⟨_, rfl⟩) with ⟨u, e⟩ | ⟨j, e, h1, h2⟩
  · rw [e]; show (-1 : Int) < _; omega
  · rw [e]; show j < _; omega
theorem slices_IndexFunc_api_Node_api_Node_c38.ge (a0 : Rows) (a1 : Row) : slices_IndexFunc_api_Node_api_Node_c38.v a0 a1 = -1 ∨ 0 ≤ slices_IndexFunc_api_Node_api_Node_c38.v a0 a1 := by
  show Sum.elim (fun r0 => r0) (fun r1 => -1) (walk slices_IndexFunc_api_Node_api_Node_c38.p2 slices_IndexFunc_api_Node_api_Node_c38.z2 a0 0 [.str (rStr a1 0)]) = -1 ∨ 0 ≤ Sum.elim (fun r0 => r0) (fun r1 => -1) (walk slices_IndexFunc_api_Node_api_Node_c38.p2 slices_IndexFunc_api_Node_api_Node_c38.z2 a0 0 [.str (rStr a1 0)])
  rcases walk_index (p := slices_IndexFunc_api_Node_api_Node_c38.p2) (z := slices_IndexFunc_api_Node_api_Node_c38.z2) (es := a0) (i := 0) (x := [.str (rStr a1 0)]) (fun i q x => by
    unfold slices_IndexFunc_api_Node_api_Node_c38.p2
    generalize score_Best_1.v _ _ = b
    cases b
    · exact Or.inl ⟨_, rfl⟩
    · exact Or.inr rfl) (fun x => ⟨_, rfl⟩) with ⟨u, e⟩ | ⟨j, e, h1, h2⟩
  · rw [e]; exact Or.inl rfl
  · rw [e]; exact Or.inr h1
namespace meta_Key
def v (a0 : ByteArray) (a1 : ByteArray) (a2 : ByteArray) : ByteArray := (sCat (sCat (sCat (sCat a0 (bs [47])) a1) (bs [47])) a2)
theorem val (a0 : ByteArray) (a1 : ByteArray) (a2 : ByteArray) (ha0 : Sz 1048576 a0) (ha1 : Sz 1048576 a1) (ha2 : Sz 1048576 a2) : DV (fun k => (f k a0 a1 a2).eval) (v a0 a1 a2) (Sz 3145730) := (DG.tt (sOk_sz ha0 (@Nat.le_of_ble_eq_true _ 1 rfl) (by decide)) (DG.tt (sOk_sz (sz_cat ha0 (@Nat.le_of_ble_eq_true _ 1 rfl)) ha1 (by decide)) (DG.tt (sOk_sz (sz_cat (sz_cat ha0 (@Nat.le_of_ble_eq_true _ 1 rfl)) ha1) (@Nat.le_of_ble_eq_true _ 1 rfl) (by decide)) (DG.tt (sOk_sz (sz_cat (sz_cat (sz_cat ha0 (@Nat.le_of_ble_eq_true _ 1 rfl)) ha1) (@Nat.le_of_ble_eq_true _ 1 rfl)) ha2 (by decide)) (DG.ret (sz_cat (sz_cat (sz_cat (sz_cat ha0 (@Nat.le_of_ble_eq_true _ 1 rfl)) ha1) (@Nat.le_of_ble_eq_true _ 1 rfl)) ha2))))))
end meta_Key
namespace meta_KeyOf
def v (a0 : Row) : ByteArray := (let r0 := (meta_Key.v (rStr a0 0) (rStr a0 1) (rStr a0 2)); r0)
theorem val (a0 : Row) (ha0 : Br a0) : DV (fun k => (f k a0).eval) (v a0) (Sz 3145730) := (DG.bnd (meta_Key.val _ _ _ (Br.str ha0 _) (Br.str ha0 _) (Br.str ha0 _)) (fun hr0 => (DG.ret hr0)))
end meta_KeyOf
namespace affinity_others
def p7 (c0 : Rows) (c8 : Row) (i : Int) (q : Row) (x : Unit) : (Unit) ⊕ (Rows) := (bif (sEq (rStr q 2) (rStr c8 13)) then (.inr (rCat c0 [rJ [et 45 c8, et 32 q, [.int .i64 (rInt q 13), .int .i64 (rInt q 14), .int .i64 (rInt q 15), .int .i64 (rInt q 16), .bool (rBool q 17), .slice 72 (rSl q 18) .open, .bool (rBool q 19), .int .i64 (rInt q 20), .bool (rBool q 21), .bool (rBool q 22), .slice 247 (rSl q 23) .open]]])) else (.inl ()))
def z7 (c0 : Rows) (x : Unit) : Rows := c0
def w7 (c0 : Rows) (c4 : Rows) (c8 : Row) : Rows := walk (p7 c0 c8) (z7 c0) c4 0 ()
def p3 (c2 : Row) (c3 : Row) (i : Int) (q : Row) (x : Rows) : (Rows) ⊕ (Rows) := (let r0 := (meta_KeyOf.v (et 32 q)); (let r1 := (meta_KeyOf.v (et 32 c3)); (bif (bIte (sEq r0 r1) true (bIte (bNot (iEq (rInt q 23) 0)) (bNot (iEq (rInt q 23) 1)) false)) then (.inl x) else (let r2 := (affinity_others.w7 x (rSl c2 0) (et 45 q)); (.inl r2)))))
def z3 (x : Rows) : Rows := x
def w3 (c0 : Rows) (c2 : Row) (c3 : Row) (x0 : Rows) : Rows := walk (p3 c2 c3) z3 c0 0 x0
def v (a0 : Row) (a1 : Row) : Rows := (let r0 := (affinity_others.w3 (rSl a0 1) (et 26 a0) (et 45 a1) []); r0)
end affinity_others
namespace affinity_others
theorem w7_v (c0 c1 : Rows) (c2 c3 : Int) (c4 : Rows) (c5 : Int) (c6 c7 c8 : Row) (h4 : Brs c4) (h8 : Br c8) (e5 : c5 = rLen c4) (n : Int) (hn : n ≤ 1048575) (g : Grow n c0) :
    DV (fun k => iter (s7 k c0 c1 c2 c3 c4 c5 c6 c7 c8) k ((fun (x : Unit) (i : Int) => i) () 0)) (w7 c0 c4 c8) (Grow (n + 1)) := by
  subst e5
  refine DV.walk (fun (x : Unit) (i : Int) => i) h4.1 (p7 c0 c8) (z7 c0) (fun (i : Int) (x : Unit) => True) (Grow (n + 1)) (fun i x hp hi hI => ?_) (fun i x hie hi hI => ?_) () trivial
  · have hin := iIn_lt hp hi
    have hx := Brs.at h4 i
    exact DG.tt hi (DG.tt hin (DG.test (fun _ => DG.tt (Grow.ok g (by omega) (by decide)) (DG.inr rfl (Grow.push g (br_rJ (all_cons (Br.eta h8 _) (all_cons (Br.eta hx _) (all_cons (br_cons brc_int (br_cons brc_int (br_cons brc_int (br_cons brc_int (br_cons brc_bool (br_cons (brc_slice (Br.sl hx _)) (br_cons brc_bool (br_cons brc_int (br_cons brc_bool (br_cons brc_bool (br_cons (brc_slice (Br.sl hx _)) br_nil))))))))))) all_nil))))))) (fun _ => DG.inl rfl trivial)))
  · exact DG.ff hi (DG.ex rfl (Grow.same g))
theorem w3_v (c0 : Rows) (c1 : Int) (c2 c3 : Row) (h0 : Brs c0) (h2 : Br c2) (h3 : Br c3) (e1 : c1 = rLen c0) :
    DV (fun k => iter (s3 k c0 c1 c2 c3) k ((fun (x : Rows) (i : Int) => (x, i)) [] 0)) (w3 c0 c2 c3 []) Brs := by
  subst e1
  refine DV.walk (fun (x : Rows) (i : Int) => (x, i)) h0.1 (p3 c2 c3) z3 (fun (i : Int) (x : Rows) => Grow i x) Brs (fun i x hp hi hI => ?_) (fun i x hie hi hI => ?_) [] Grow.nil
  · have hin := iIn_lt hp hi
    have hlt := lt_of h0.1 hi
    have hx := Brs.at h0 i
    exact DG.tt hi (DG.tt hin (DG.bnd (meta_KeyOf.val _ (Br.eta hx _)) (fun hr0 => (DG.bnd (meta_KeyOf.val _ (Br.eta h3 _)) (fun hr1 => (DG.test (fun h_2 => (DG.inl rfl (Grow.same hI))) (fun h_2 => (DG.bnd (w7_v _ _ _ _ _ _ _ _ _ (Br.sl h2 _) (Br.eta hx _) rfl i (by omega) hI) (fun hr2 => (DG.inl rfl hr2))))))))))
  · exact DG.ff hi (DG.ex rfl (Grow.done hI (eq_le h0.1 hie)))
theorem val (a0 : Row) (a1 : Row) (ha0 : Br a0) (ha1 : Br a1) : DV (fun k => (f k a0 a1).eval) (v a0 a1) Brs := (DG.bnd (w3_v _ _ _ _ (Br.sl ha0 _) (Br.eta ha0 _) (Br.eta ha1 _) rfl) (fun hr0 => (DG.ret hr0)))
end affinity_others
namespace label_Get
def p2 (c0 : ByteArray) (i : Int) (q : Row) (x : Unit) : (Unit) ⊕ ((ByteArray × Bool) ⊕ Unit) := (bif (sEq (rStr q 0) c0) then (.inr (.inl (rStr q 1, true))) else (.inl ()))
def z2 (x : Unit) : (ByteArray × Bool) ⊕ Unit := (.inr ())
def w2 (c0 : ByteArray) (c1 : Rows) : (ByteArray × Bool) ⊕ Unit := walk (p2 c0) z2 c1 0 ()
def v (a0 : Rows) (a1 : ByteArray) : (ByteArray × Bool) := (Sum.elim (fun r0 => (r0.1, r0.2)) (fun r1 => (ByteArray.empty, false)) (label_Get.w2 a1 a0))
theorem w2_v (c0 : ByteArray) (c1 : Rows) (c2 : Int) (hc1 : Brs c1) (ec2 : c2 = rLen c1) (x0 : Unit) (h0 : True) : DV (fun k => iter (s2 k c0 c1 c2) k ((fun (x : Unit) (i : Int) => i) x0 0)) (w2 c0 c1) (Ps (Pp (Sz 1048576) Pt) Pt) := by
  subst ec2; refine DV.walk (fun (x : Unit) (i : Int) => i) hc1.1 (p2 c0) z2 (fun (i : Int) (x : Unit) => True) (Ps (Pp (Sz 1048576) Pt) Pt) (fun i x hp hi hI => ?_) (fun i x hie hi hI => ?_) x0 h0
  · have hlt := lt_of hc1.1 hi
    have hle := Int.le_of_lt hlt
    have hin := iIn_lt hp hi
    exact DG.tt hi (DG.tt hin (DG.test (fun h_1 => (DG.inr rfl ⟨(Br.str (Brs.at hc1 _) _), trivial⟩)) (fun h_1 => (DG.inl rfl trivial))))
  · have hle := eq_le hc1.1 hie
    exact DG.ff hi (DG.ex rfl trivial)
theorem val (a0 : Rows) (a1 : ByteArray) (ha0 : Brs a0) : DV (fun k => (f k a0 a1).eval) (v a0 a1) (Pp (Sz 1048576) Pt) := (DG.cas (label_Get.w2_v _ _ _ ha0 rfl () trivial) (fun r0 hr0 => (DG.ret ⟨hr0.1, trivial⟩)) (fun r1 hr1 => (DG.ret ⟨(Nat.le_trans (@Nat.le_of_ble_eq_true _ 0 rfl) (Nat.le_of_ble_eq_true rfl)), trivial⟩)))
end label_Get
namespace slices_Index_string_string
def p2 (c1 : ByteArray) (i : Int) (q : Row) (x : Unit) : (Unit) ⊕ (Int ⊕ Unit) := (bif (sEq c1 (rStr q 0)) then (.inr (.inl i)) else (.inl ()))
def z2 (x : Unit) : Int ⊕ Unit := (.inr ())
def w2 (c0 : Rows) (c1 : ByteArray) : Int ⊕ Unit := walk (p2 c1) z2 c0 0 ()
def v (a0 : Rows) (a1 : ByteArray) : Int := (Sum.elim (fun r0 => r0) (fun r1 => (-1)) (slices_Index_string_string.w2 a0 a1))
theorem w2_v (c0 : Rows) (c1 : ByteArray) (c2 : Int) (hc0 : Brs c0) (ec2 : c2 = rLen c0) (x0 : Unit) (h0 : True) : DV (fun k => iter (s2 k c0 c1 c2) k ((fun (x : Unit) (i : Int) => i) x0 0)) (w2 c0 c1) (Ps Pt Pt) := by
  subst ec2; refine DV.walk (fun (x : Unit) (i : Int) => i) hc0.1 (p2 c1) z2 (fun (i : Int) (x : Unit) => True) (Ps Pt Pt) (fun i x hp hi hI => ?_) (fun i x hie hi hI => ?_) x0 h0
  · have hlt := lt_of hc0.1 hi
    have hle := Int.le_of_lt hlt
    have hin := iIn_lt hp hi
    exact DG.tt hi (DG.tt hin (DG.test (fun h_1 => (DG.inr rfl trivial)) (fun h_1 => (DG.inl rfl trivial))))
  · have hle := eq_le hc0.1 hie
    exact DG.ff hi (DG.ex rfl trivial)
theorem val (a0 : Rows) (a1 : ByteArray) (ha0 : Brs a0) : DV (fun k => (f k a0 a1).eval) (v a0 a1) Pt := (DG.cas (slices_Index_string_string.w2_v _ _ _ ha0 rfl () trivial) (fun r0 hr0 => (DG.ret trivial)) (fun r1 hr1 => (DG.ret trivial)))
end slices_Index_string_string
namespace slices_Contains_string_string
def v (a0 : Rows) (a1 : ByteArray) : Bool := (let r0 := (slices_Index_string_string.v a0 a1); (iLe 0 r0))
theorem val (a0 : Rows) (a1 : ByteArray) (ha0 : Brs a0) : DV (fun k => (f k a0 a1).eval) (v a0 a1) Pt := (DG.bnd (slices_Index_string_string.val _ _ ha0) (fun hr0 => (DG.ret trivial)))
end slices_Contains_string_string
namespace label_holds
def v (a0 : Row) (a1 : Rows) : Bool := (let r0 := (label_Get.v a1 (rStr a0 0)); (bif (iEq (rInt a0 1) 1) then (let r1 := bif r0.2 then (slices_Contains_string_string.v (rSl a0 2) r0.1) else default; (bIte r0.2 r1 false)) else (bif (iEq (rInt a0 1) 2) then (let r2 := bif (bNot (bNot r0.2)) then (slices_Contains_string_string.v (rSl a0 2) r0.1) else default; (bIte (bNot r0.2) true (bNot r2))) else (bif (iEq (rInt a0 1) 3) then r0.2 else (bif (iEq (rInt a0 1) 4) then (bNot r0.2) else false)))))
theorem val (a0 : Row) (a1 : Rows) (ha0 : Br a0) (ha1 : Brs a1) : DV (fun k => (f k a0 a1).eval) (v a0 a1) Pt := (DG.bnd (label_Get.val _ _ ha1) (fun hr0 => (DG.test (fun h_2 => (DG.opt (fun h_3 => (slices_Contains_string_string.val _ _ (Br.sl ha0 _))) (fun _ => trivial) (fun hr1 => (DG.ret trivial)))) (fun h_2 => (DG.test (fun h_4 => (DG.opt (fun h_5 => (slices_Contains_string_string.val _ _ (Br.sl ha0 _))) (fun _ => trivial) (fun hr2 => (DG.ret trivial)))) (fun h_4 => (DG.test (fun h_6 => (DG.ret trivial)) (fun h_6 => (DG.test (fun h_7 => (DG.ret trivial)) (fun h_7 => (DG.ret trivial)))))))))))
end label_holds
namespace label_Matches
def p2 (c0 : Rows) (i : Int) (q : Row) (x : Unit) : (Unit) ⊕ (Bool ⊕ Unit) := (let r0 := (label_holds.v (et 129 q) c0); (bif (bNot r0) then (.inr (.inl false)) else (.inl ())))
def z2 (x : Unit) : Bool ⊕ Unit := (.inr ())
def w2 (c0 : Rows) (c1 : Rows) : Bool ⊕ Unit := walk (p2 c0) z2 c1 0 ()
def v (a0 : Rows) (a1 : Rows) : Bool := (Sum.elim (fun r0 => r0) (fun r1 => true) (label_Matches.w2 a1 a0))
theorem w2_v (c0 : Rows) (c1 : Rows) (c2 : Int) (hc0 : Brs c0) (hc1 : Brs c1) (ec2 : c2 = rLen c1) (x0 : Unit) (h0 : True) : DV (fun k => iter (s2 k c0 c1 c2) k ((fun (x : Unit) (i : Int) => i) x0 0)) (w2 c0 c1) (Ps Pt Pt) := by
  subst ec2; refine DV.walk (fun (x : Unit) (i : Int) => i) hc1.1 (p2 c0) z2 (fun (i : Int) (x : Unit) => True) (Ps Pt Pt) (fun i x hp hi hI => ?_) (fun i x hie hi hI => ?_) x0 h0
  · have hlt := lt_of hc1.1 hi
    have hle := Int.le_of_lt hlt
    have hin := iIn_lt hp hi
    exact DG.tt hi (DG.tt hin (DG.bnd (label_holds.val _ _ (Br.eta (Brs.at hc1 _) _) hc0) (fun hr0 => (DG.test (fun h_2 => (DG.inr rfl trivial)) (fun h_2 => (DG.inl rfl trivial))))))
  · have hle := eq_le hc1.1 hie
    exact DG.ff hi (DG.ex rfl trivial)
theorem val (a0 : Rows) (a1 : Rows) (ha0 : Brs a0) (ha1 : Brs a1) : DV (fun k => (f k a0 a1).eval) (v a0 a1) Pt := (DG.cas (label_Matches.w2_v _ _ _ ha1 ha0 rfl () trivial) (fun r0 hr0 => (DG.ret trivial)) (fun r1 hr1 => (DG.ret trivial)))
end label_Matches
namespace affinity_limit
def v (a0 : Int) : Int := (iMin (iMax a0 (-1000000000000000)) 1000000000000000)
theorem val (a0 : Int) : DV (fun k => (f k a0).eval) (v a0) Pt := (DG.ret trivial)
end affinity_limit
namespace affinity_selects
def v (a0 : Row) (a1 : ByteArray) (a2 : Row) : Bool := (let r0 := bif (sEq (rStr a2 1) a1) then (label_Matches.v (rSl a0 2) (rSl a2 9)) else default; (bIte (sEq (rStr a2 1) a1) r0 false))
theorem val (a0 : Row) (a1 : ByteArray) (a2 : Row) (ha0 : Br a0) (ha2 : Br a2) : DV (fun k => (f k a0 a1 a2).eval) (v a0 a1 a2) Pt := (DG.opt (fun h_1 => (label_Matches.val _ _ (Br.sl ha0 _) (Br.sl ha2 _))) (fun _ => trivial) (fun hr0 => (DG.ret trivial)))
end affinity_selects
namespace affinity_Domain
def v (a0 : Row) (a1 : ByteArray) : (ByteArray × Bool) := (let r0 := (label_Get.v (rSl a0 9) a1); (r0.1, r0.2))
theorem val (a0 : Row) (a1 : ByteArray) (ha0 : Br a0) : DV (fun k => (f k a0 a1).eval) (v a0 a1) (Pp (Sz 1048576) Pt) := (DG.bnd (label_Get.val _ _ (Br.sl ha0 _)) (fun hr0 => (DG.ret ⟨hr0.1, trivial⟩)))
end affinity_Domain
namespace affinity_together
def v (a0 : Row) (a1 : Row) (a2 : ByteArray) : Bool := (let r0 := (affinity_Domain.v (et 51 a0) a2); (let r1 := (affinity_Domain.v (et 51 a1) a2); (bIte (bIte r0.2 r1.2 false) (sEq r0.1 r1.1) false)))
theorem val (a0 : Row) (a1 : Row) (a2 : ByteArray) (ha0 : Br a0) (ha1 : Br a1) : DV (fun k => (f k a0 a1 a2).eval) (v a0 a1 a2) Pt := (DG.bnd (affinity_Domain.val _ _ (Br.eta ha0 _)) (fun hr0 => (DG.bnd (affinity_Domain.val _ _ (Br.eta ha1 _)) (fun hr1 => (DG.ret trivial)))))
end affinity_together
namespace affinity_near
def p2 (c2 : Row) (c3 : Row) (c4 : Row) (i : Int) (q : Row) (x : Bool × Bool) : (Bool × Bool) ⊕ (Bool × Bool) := (let r0 := (affinity_selects.v (et 107 c2) (rStr c3 1) (et 45 q)); (bif r0 then (let r1 := bif (bNot x.1) then (affinity_together.v (et 51 c4) (eo 51 q 32) (rStr c2 3)) else default; (.inl ((bIte x.1 true r1), true))) else (.inl (x.1, x.2))))
def z2 (x : Bool × Bool) : Bool × Bool := (x.1, x.2)
def w2 (c0 : Rows) (c2 : Row) (c3 : Row) (c4 : Row) (x0 : Bool × Bool) : Bool × Bool := walk (p2 c2 c3 c4) z2 c0 0 x0
def v (a0 : Row) (a1 : Row) (a2 : Row) (a3 : Rows) : (Bool × Bool) := (let r0 := (affinity_near.w2 a3 (et 107 a0) (et 45 a1) (et 51 a2) (false, false)); (r0.1, r0.2))
theorem w2_v (c0 : Rows) (c1 : Int) (c2 : Row) (c3 : Row) (c4 : Row) (hc0 : Brs c0) (hc2 : Br c2) (hc4 : Br c4) (ec1 : c1 = rLen c0) (x0 : Bool × Bool) (h0 : True ∧ True) : DV (fun k => iter (s2 k c0 c1 c2 c3 c4) k ((fun (x : Bool × Bool) (i : Int) => (x.1, x.2, i)) x0 0)) (w2 c0 c2 c3 c4 x0) (Pp Pt Pt) := by
  subst ec1; refine DV.walk (fun (x : Bool × Bool) (i : Int) => (x.1, x.2, i)) hc0.1 (p2 c2 c3 c4) z2 (fun (i : Int) (x : Bool × Bool) => True ∧ True) (Pp Pt Pt) (fun i x hp hi hI => ?_) (fun i x hie hi hI => ?_) x0 h0
  · have hlt := lt_of hc0.1 hi
    have hle := Int.le_of_lt hlt
    have hin := iIn_lt hp hi
    exact DG.tt hi (DG.tt hin (DG.bnd (affinity_selects.val _ _ _ (Br.eta hc2 _) (Br.eta (Brs.at hc0 _) _)) (fun hr0 => (DG.test (fun h_2 => (DG.opt (fun h_3 => (affinity_together.val _ _ _ (Br.eta hc4 _) (br_etaL (Brs.at hc0 _) _ _))) (fun _ => trivial) (fun hr1 => (DG.inl rfl ⟨trivial, trivial⟩)))) (fun h_2 => (DG.inl rfl ⟨trivial, trivial⟩))))))
  · have hle := eq_le hc0.1 hie
    exact DG.ff hi (DG.ex rfl ⟨trivial, trivial⟩)
theorem val (a0 : Row) (a1 : Row) (a2 : Row) (a3 : Rows) (ha0 : Br a0) (ha2 : Br a2) (ha3 : Brs a3) : DV (fun k => (f k a0 a1 a2 a3).eval) (v a0 a1 a2 a3) (Pp Pt Pt) := (DG.bnd (affinity_near.w2_v _ _ _ _ _ ha3 (Br.eta ha0 _) (Br.eta ha2 _) rfl _ ⟨trivial, trivial⟩) (fun hr0 => (DG.ret ⟨trivial, trivial⟩)))
end affinity_near
namespace affinity_Preference
def p4 (c4 : Row) (i : Int) (q : Row) (x : Int) : (Int) ⊕ (Int) := (let r0 := bif (bNot (rBool q 0)) then (label_Matches.v (rSl q 1) (rSl c4 9)) else default; (bif (bIte (bNot (rBool q 0)) r0 false) then (let r1 := (affinity_limit.v (rInt q 2)); (.inl (iAdd .i64 x r1))) else (.inl x)))
def z4 (x : Int) : Int := x
def w4 (c1 : Rows) (c4 : Row) (x0 : Int) : Int := walk (p4 c4) z4 c1 0 x0
def p10 (c0 : Rows) (c3 : Row) (c4 : Row) (i : Int) (q : Row) (x : Int) : (Int) ⊕ (Int) := (let r0 := (affinity_near.v (et 107 q) (et 45 c3) (et 51 c4) c0); (bif (bIte (rBool q 0) true (bNot r0.1)) then (.inl x) else (bif (rBool q 1) then (let r1 := (affinity_limit.v (rInt q 4)); (.inl (iSub .i64 x r1))) else (let r2 := (affinity_limit.v (rInt q 4)); (.inl (iAdd .i64 x r2))))))
def z10 (x : Int) : Int := x
def w10 (c0 : Rows) (c1 : Rows) (c3 : Row) (c4 : Row) (x0 : Int) : Int := walk (p10 c0 c3 c4) z10 c1 0 x0
def v (a0 : Row) (a1 : Row) (a2 : Row) : Int := (let r0 := (affinity_others.v (et 26 a0) (et 45 a1)); (let r1 := (affinity_Preference.w4 (rSl a1 19) (et 51 a2) 0); (let r2 := (affinity_Preference.w10 r0 (rSl a1 20) (et 45 a1) (et 51 a2) r1); (let r3 := (affinity_limit.v r2); r3))))
theorem w4_v (c0 : Rows) (c1 : Rows) (c2 : Int) (c3 : Row) (c4 : Row) (hc1 : Brs c1) (hc4 : Br c4) (ec2 : c2 = rLen c1) (x0 : Int) (h0 : True) : DV (fun k => iter (s4 k c0 c1 c2 c3 c4) k ((fun (x : Int) (i : Int) => (x, i)) x0 0)) (w4 c1 c4 x0) Pt := by
  subst ec2; refine DV.walk (fun (x : Int) (i : Int) => (x, i)) hc1.1 (p4 c4) z4 (fun (i : Int) (x : Int) => True) Pt (fun i x hp hi hI => ?_) (fun i x hie hi hI => ?_) x0 h0
  · have hlt := lt_of hc1.1 hi
    have hle := Int.le_of_lt hlt
    have hin := iIn_lt hp hi
    exact DG.tt hi (DG.tt hin (DG.opt (fun h_1 => (label_Matches.val _ _ (Br.sl (Brs.at hc1 _) _) (Br.sl hc4 _))) (fun _ => trivial) (fun hr0 => (DG.test (fun h_2 => (DG.bnd (affinity_limit.val _) (fun hr1 => (DG.inl rfl trivial)))) (fun h_2 => (DG.inl rfl trivial))))))
  · have hle := eq_le hc1.1 hie
    exact DG.ff hi (DG.ex rfl trivial)
theorem w10_v (c0 : Rows) (c1 : Rows) (c2 : Int) (c3 : Row) (c4 : Row) (hc0 : Brs c0) (hc1 : Brs c1) (hc4 : Br c4) (ec2 : c2 = rLen c1) (x0 : Int) (h0 : True) : DV (fun k => iter (s10 k c0 c1 c2 c3 c4) k ((fun (x : Int) (i : Int) => (x, i)) x0 0)) (w10 c0 c1 c3 c4 x0) Pt := by
  subst ec2; refine DV.walk (fun (x : Int) (i : Int) => (x, i)) hc1.1 (p10 c0 c3 c4) z10 (fun (i : Int) (x : Int) => True) Pt (fun i x hp hi hI => ?_) (fun i x hie hi hI => ?_) x0 h0
  · have hlt := lt_of hc1.1 hi
    have hle := Int.le_of_lt hlt
    have hin := iIn_lt hp hi
    exact DG.tt hi (DG.tt hin (DG.bnd (affinity_near.val _ _ _ _ (Br.eta (Brs.at hc1 _) _) (Br.eta hc4 _) hc0) (fun hr0 => (DG.test (fun h_2 => (DG.inl rfl trivial)) (fun h_2 => (DG.test (fun h_3 => (DG.bnd (affinity_limit.val _) (fun hr1 => (DG.inl rfl trivial)))) (fun h_3 => (DG.bnd (affinity_limit.val _) (fun hr2 => (DG.inl rfl trivial))))))))))
  · have hle := eq_le hc1.1 hie
    exact DG.ff hi (DG.ex rfl trivial)
theorem val (a0 : Row) (a1 : Row) (a2 : Row) (ha0 : Br a0) (ha1 : Br a1) (ha2 : Br a2) : DV (fun k => (f k a0 a1 a2).eval) (v a0 a1 a2) Pt := (DG.bnd (affinity_others.val _ _ (Br.eta ha0 _) (Br.eta ha1 _)) (fun hr0 => (DG.bnd (affinity_Preference.w4_v _ _ _ _ _ (Br.sl ha1 _) (Br.eta ha2 _) rfl _ trivial) (fun hr1 => (DG.bnd (affinity_Preference.w10_v _ _ _ _ _ hr0 (Br.sl ha1 _) (Br.eta ha2 _) rfl _ trivial) (fun hr2 => (DG.bnd (affinity_limit.val _) (fun hr3 => (DG.ret trivial)))))))))
end affinity_Preference
namespace score_clamp
def v (a0 : Int) (a1 : Int) (a2 : Int) : Int := (iMin (iMax a0 a1) a2)
theorem val (a0 : Int) (a1 : Int) (a2 : Int) : DV (fun k => (f k a0 a1 a2).eval) (v a0 a1 a2) Pt := (DG.ret trivial)
end score_clamp
theorem share_ne {x : Int} (h : iLe x 0 = false) : bNot (iEq x 0) = true := by
  have h : ¬ x ≤ 0 := of_decide_eq_false h
  have : iEq x 0 = false := beq_eq_false_iff_ne.2 (by omega)
  rw [this]; rfl
namespace taint_Tolerates
def v (a0 : Row) (a1 : Row) : Bool := (bIte (bIte (bIte (sEq (rStr a0 0) ByteArray.empty) true (sEq (rStr a0 0) (rStr a1 0))) (bIte (rBool a0 2) true (sEq (rStr a0 1) (rStr a1 1))) false) (bIte (iEq (rInt a0 3) 0) true (iEq (rInt a0 3) (rInt a1 2))) false)
theorem val (a0 : Row) (a1 : Row) : DV (fun k => (f k a0 a1).eval) (v a0 a1) Pt := (DG.ret trivial)
end taint_Tolerates
namespace taint_tolerated_1
def v (a0 : Row) (a1 : Row) : Bool := (let r0 := (taint_Tolerates.v (et 147 a0) (et 72 a1)); r0)
theorem val (a0 : Row) (a1 : Row) : DV (fun k => (f k a0 a1).eval) (v a0 a1) Pt := (DG.bnd (taint_Tolerates.val _ _) (fun hr0 => (DG.ret trivial)))
end taint_tolerated_1
namespace slices_IndexFunc_api_Toleration_api_Toleration_c85
def p2 (c1 : Row) (i : Int) (q : Row) (x : Unit) : (Unit) ⊕ (Int ⊕ Unit) := (let r0 := (taint_tolerated_1.v (et 147 q) (et 72 c1)); (bif r0 then (.inr (.inl i)) else (.inl ())))
def z2 (x : Unit) : Int ⊕ Unit := (.inr ())
def w2 (c0 : Rows) (c1 : Row) : Int ⊕ Unit := walk (p2 c1) z2 c0 0 ()
def v (a0 : Rows) (a1 : Row) : Int := (Sum.elim (fun r0 => r0) (fun r1 => (-1)) (slices_IndexFunc_api_Toleration_api_Toleration_c85.w2 a0 (et 72 a1)))
theorem w2_v (c0 : Rows) (c1 : Row) (c2 : Int) (hc0 : Brs c0) (ec2 : c2 = rLen c0) (x0 : Unit) (h0 : True) : DV (fun k => iter (s2 k c0 c1 c2) k ((fun (x : Unit) (i : Int) => i) x0 0)) (w2 c0 c1) (Ps Pt Pt) := by
  subst ec2; refine DV.walk (fun (x : Unit) (i : Int) => i) hc0.1 (p2 c1) z2 (fun (i : Int) (x : Unit) => True) (Ps Pt Pt) (fun i x hp hi hI => ?_) (fun i x hie hi hI => ?_) x0 h0
  · have hlt := lt_of hc0.1 hi
    have hle := Int.le_of_lt hlt
    have hin := iIn_lt hp hi
    exact DG.tt hi (DG.tt hin (DG.bnd (taint_tolerated_1.val _ _) (fun hr0 => (DG.test (fun h_2 => (DG.inr rfl trivial)) (fun h_2 => (DG.inl rfl trivial))))))
  · have hle := eq_le hc0.1 hie
    exact DG.ff hi (DG.ex rfl trivial)
theorem val (a0 : Rows) (a1 : Row) (ha0 : Brs a0) : DV (fun k => (f k a0 a1).eval) (v a0 a1) Pt := (DG.cas (slices_IndexFunc_api_Toleration_api_Toleration_c85.w2_v _ _ _ ha0 rfl () trivial) (fun r0 hr0 => (DG.ret trivial)) (fun r1 hr1 => (DG.ret trivial)))
end slices_IndexFunc_api_Toleration_api_Toleration_c85
namespace slices_ContainsFunc_api_Toleration_api_Toleration_c85
def v (a0 : Rows) (a1 : Row) : Bool := (let r0 := (slices_IndexFunc_api_Toleration_api_Toleration_c85.v a0 (et 72 a1)); (iLe 0 r0))
theorem val (a0 : Rows) (a1 : Row) (ha0 : Brs a0) : DV (fun k => (f k a0 a1).eval) (v a0 a1) Pt := (DG.bnd (slices_IndexFunc_api_Toleration_api_Toleration_c85.val _ _ ha0) (fun hr0 => (DG.ret trivial)))
end slices_ContainsFunc_api_Toleration_api_Toleration_c85
namespace taint_tolerated
def v (a0 : Row) (a1 : Rows) : Bool := (let r0 := (slices_ContainsFunc_api_Toleration_api_Toleration_c85.v a1 (et 72 a0)); r0)
theorem val (a0 : Row) (a1 : Rows) (ha1 : Brs a1) : DV (fun k => (f k a0 a1).eval) (v a0 a1) Pt := (DG.bnd (slices_ContainsFunc_api_Toleration_api_Toleration_c85.val _ _ ha1) (fun hr0 => (DG.ret trivial)))
end taint_tolerated
namespace taint_Soft
def p3 (c0 : Rows) (i : Int) (q : Row) (x : Int) : (Int) ⊕ (Int) := (let r0 := bif (iEq (rInt q 2) 2) then (taint_tolerated.v (et 72 q) c0) else default; (bif (bIte (iEq (rInt q 2) 2) (bNot r0) false) then (.inl (iAdd .i64 x 1)) else (.inl x)))
def z3 (x : Int) : Int := x
def w3 (c0 : Rows) (c1 : Rows) (x0 : Int) : Int := walk (p3 c0) z3 c1 0 x0
def v (a0 : Rows) (a1 : Rows) : Int := (let r0 := (taint_Soft.w3 a1 a0 0); r0)
theorem w3_v (c0 : Rows) (c1 : Rows) (c2 : Int) (hc0 : Brs c0) (hc1 : Brs c1) (ec2 : c2 = rLen c1) (x0 : Int) (h0 : True) : DV (fun k => iter (s3 k c0 c1 c2) k ((fun (x : Int) (i : Int) => (x, i)) x0 0)) (w3 c0 c1 x0) Pt := by
  subst ec2; refine DV.walk (fun (x : Int) (i : Int) => (x, i)) hc1.1 (p3 c0) z3 (fun (i : Int) (x : Int) => True) Pt (fun i x hp hi hI => ?_) (fun i x hie hi hI => ?_) x0 h0
  · have hlt := lt_of hc1.1 hi
    have hle := Int.le_of_lt hlt
    have hin := iIn_lt hp hi
    exact DG.tt hi (DG.tt hin (DG.opt (fun h_1 => (taint_tolerated.val _ _ hc0)) (fun _ => trivial) (fun hr0 => (DG.test (fun h_2 => (DG.inl rfl trivial)) (fun h_2 => (DG.inl rfl trivial))))))
  · have hle := eq_le hc1.1 hie
    exact DG.ff hi (DG.ex rfl trivial)
theorem val (a0 : Rows) (a1 : Rows) (ha0 : Brs a0) (ha1 : Brs a1) : DV (fun k => (f k a0 a1).eval) (v a0 a1) Pt := (DG.bnd (taint_Soft.w3_v _ _ _ ha1 ha0 rfl _ trivial) (fun hr0 => (DG.ret trivial)))
end taint_Soft
namespace slices_Clone_api_Pod_api_Pod
def v (a0 : Rows) : Rows := a0
theorem val (a0 : Rows) (ha0 : Brs a0) : DV (fun k => (f k a0).eval) (v a0) Brs := (DG.tt (rOk_new (by decide) ha0) (DG.ret ha0))
def vm (a0 : Rows) : (Rows × Int) := (a0, (rLen a0))
theorem valm (a0 : Rows) (ha0 : Brs a0) : DV (fun k => (fm k a0).eval) (vm a0) (Pp Brs Pt) := (DG.tt (rOk_new (by decide) ha0) (DG.ret ⟨ha0, trivial⟩))
end slices_Clone_api_Pod_api_Pod
namespace spread_look_1
def v (a0 : Row) (a1 : Row) : Bool := (let r0 := (meta_KeyOf.v (et 32 a0)); (sEq r0 (rStr a1 0)))
theorem val (a0 : Row) (a1 : Row) (ha0 : Br a0) : DV (fun k => (f k a0 a1).eval) (v a0 a1) Pt := (DG.bnd (meta_KeyOf.val _ (Br.eta ha0 _)) (fun hr0 => (DG.ret trivial)))
end spread_look_1
namespace slices_IndexFunc_api_Pod_api_Pod_c89
def p2 (i : Int) (q : Row) (x : Row) : (Row) ⊕ (Int ⊕ Unit) := (let r0 := (spread_look_1.v (et 45 q) [.str (rStr x 0)]); (bif r0 then (.inr (.inl i)) else (.inl [.str (rStr x 0)])))
def z2 (x : Row) : Int ⊕ Unit := (.inr ())
def w2 (c0 : Rows) (x0 : Row) : Int ⊕ Unit := walk p2 z2 c0 0 x0
def v (a0 : Rows) (a1 : Row) : Int := (Sum.elim (fun r0 => r0) (fun r1 => (-1)) (slices_IndexFunc_api_Pod_api_Pod_c89.w2 a0 [.str (rStr a1 0)]))
theorem w2_v (c0 : Rows) (c1 : Int) (hc0 : Brs c0) (ec1 : c1 = rLen c0) (x0 : Row) (h0 : True) : DV (fun k => iter (s2 k c0 c1) k ((fun (x : Row) (i : Int) => (x, i)) x0 0)) (w2 c0 x0) (Ps Pt Pt) := by
  subst ec1; refine DV.walk (fun (x : Row) (i : Int) => (x, i)) hc0.1 p2 z2 (fun (i : Int) (x : Row) => True) (Ps Pt Pt) (fun i x hp hi hI => ?_) (fun i x hie hi hI => ?_) x0 h0
  · have hlt := lt_of hc0.1 hi
    have hle := Int.le_of_lt hlt
    have hin := iIn_lt hp hi
    exact DG.tt hi (DG.tt hin (DG.bnd (spread_look_1.val _ _ (Br.eta (Brs.at hc0 _) _)) (fun hr0 => (DG.test (fun h_2 => (DG.inr rfl trivial)) (fun h_2 => (DG.inl rfl trivial))))))
  · have hle := eq_le hc0.1 hie
    exact DG.ff hi (DG.ex rfl trivial)
theorem val (a0 : Rows) (a1 : Row) (ha0 : Brs a0) : DV (fun k => (f k a0 a1).eval) (v a0 a1) Pt := (DG.cas (slices_IndexFunc_api_Pod_api_Pod_c89.w2_v _ _ ha0 rfl _ trivial) (fun r0 hr0 => (DG.ret trivial)) (fun r1 hr1 => (DG.ret trivial)))
end slices_IndexFunc_api_Pod_api_Pod_c89
theorem slices_IndexFunc_api_Pod_api_Pod_c89.lt (a0 : Rows) (a1 : Row) : slices_IndexFunc_api_Pod_api_Pod_c89.v a0 a1 < rLen a0 := by
  have h0 : 0 ≤ rLen a0 := by unfold rLen; omega
  show Sum.elim (fun r0 => r0) (fun r1 => -1) (walk slices_IndexFunc_api_Pod_api_Pod_c89.p2 slices_IndexFunc_api_Pod_api_Pod_c89.z2 a0 0 [.str (rStr a1 0)]) < _
  rcases walk_index (p := slices_IndexFunc_api_Pod_api_Pod_c89.p2) (z := slices_IndexFunc_api_Pod_api_Pod_c89.z2) (es := a0) (i := 0) (x := [.str (rStr a1 0)]) (fun i q x => by
    unfold slices_IndexFunc_api_Pod_api_Pod_c89.p2
    generalize spread_look_1.v _ _ = b
    cases b
    · exact Or.inl ⟨_, rfl⟩
    · exact Or.inr rfl) (fun x => ⟨_, rfl⟩) with ⟨u, e⟩ | ⟨j, e, h1, h2⟩
  · rw [e]; show (-1 : Int) < _; omega
  · rw [e]; show j < _; omega
theorem slices_IndexFunc_api_Pod_api_Pod_c89.ge (a0 : Rows) (a1 : Row) : slices_IndexFunc_api_Pod_api_Pod_c89.v a0 a1 = -1 ∨ 0 ≤ slices_IndexFunc_api_Pod_api_Pod_c89.v a0 a1 := by
  show Sum.elim (fun r0 => r0) (fun r1 => -1) (walk slices_IndexFunc_api_Pod_api_Pod_c89.p2 slices_IndexFunc_api_Pod_api_Pod_c89.z2 a0 0 [.str (rStr a1 0)]) = -1 ∨ 0 ≤ Sum.elim (fun r0 => r0) (fun r1 => -1) (walk slices_IndexFunc_api_Pod_api_Pod_c89.p2 slices_IndexFunc_api_Pod_api_Pod_c89.z2 a0 0 [.str (rStr a1 0)])
  rcases walk_index (p := slices_IndexFunc_api_Pod_api_Pod_c89.p2) (z := slices_IndexFunc_api_Pod_api_Pod_c89.z2) (es := a0) (i := 0) (x := [.str (rStr a1 0)]) (fun i q x => by
    unfold slices_IndexFunc_api_Pod_api_Pod_c89.p2
    generalize spread_look_1.v _ _ = b
    cases b
    · exact Or.inl ⟨_, rfl⟩
    · exact Or.inr rfl) (fun x => ⟨_, rfl⟩) with ⟨u, e⟩ | ⟨j, e, h1, h2⟩
  · rw [e]; exact Or.inl rfl
  · rw [e]; exact Or.inr h1
namespace slices_DeleteFunc_api_Pod_api_Pod_c89
def p5 (i : Int) (q : Row) (x : Row × Int × Rows) : (Row × Int × Rows) ⊕ (Int × Rows) := (bif (bNot (spread_look_1.v (et 45 (rAt x.2.2 i)) [.str (rStr x.1 0)])) then (.inl ([.str (rStr x.1 0)], (iAdd .i64 x.2.1 1), (rSet x.2.2 x.2.1 (et 45 (rAt x.2.2 i))))) else (.inl ([.str (rStr x.1 0)], x.2.1, x.2.2)))
def z5 (x : Row × Int × Rows) : Int × Rows := (x.2.1, x.2.2)
def w5 (n : Int) (x0 : Row × Int × Rows) (s0 : Int) : Int × Rows := walk p5 z5 ((nRows n).drop s0.toNat) s0 x0
def v (a0 : Rows) (a1 : Row) : (Rows × Int) := (let r0 := (slices_IndexFunc_api_Pod_api_Pod_c89.v (rTake a0 (rLen a0)) [.str (rStr a1 0)]); (bif (iEq r0 (-1)) then (a0, (rLen a0)) else (let r1 := (w5 (rLen a0) ([.str (rStr a1 0)], r0, a0) (iAdd .i64 r0 1)); ((rFill r1.2 r1.1 (iPlus r1.1 (iMinus (rLen a0) r1.1)) [.str ByteArray.empty, .str ByteArray.empty, .str ByteArray.empty, .int .i64 (0), .int .i64 (0), .int .i64 (0), .int .i64 (0), .bool false, .int .i64 (0), .slice 89 [] .open, .slice 91 [] .open, .slice 9 [] .open, .slice 93 [] .open, .str ByteArray.empty, .int .i64 (0), .int .i64 (0), .int .i64 (0), .slice 65 [] .open, .slice 129 [] .open, .slice 103 [] .open, .slice 107 [] .open, .slice 112 [] .open, .slice 147 [] .open, .int .i64 (0), .bool false, .int .i64 (0), .int .i64 (0), .int .i64 (0), .slice 218 [] .open, .int .i64 (0), .str ByteArray.empty, .str ByteArray.empty]), r1.1))))
theorem w5_v (n : Int) (hn : 0 ≤ n ∧ n ≤ 1048576) (x0 : Row × Int × Rows) (s0 : Int) (hs : 0 ≤ s0 ∧ s0 ≤ n) (h0 : 0 ≤ x0.2.1 ∧ x0.2.1 ≤ s0 ∧ SetI n x0.2.2) : DV (fun k => iter (s5 k n) k ((fun (x : Row × Int × Rows) (i : Int) => (x.1, x.2.1, i, x.2.2)) x0 s0)) (w5 n x0 s0) (fun r => (0 ≤ r.1 ∧ r.1 ≤ n) ∧ SetI n r.2) := by
  refine DV.walkNFrom (fun (x : Row × Int × Rows) (i : Int) => (x.1, x.2.1, i, x.2.2)) hn p5 z5 (fun (i : Int) (x : Row × Int × Rows) => 0 ≤ x.2.1 ∧ x.2.1 ≤ i ∧ SetI n x.2.2) _ (fun i x hp hi hI => ?_) (fun i x hie hi hI => ?_) x0 s0 hs h0
  · have hlt := ltn_of hn hi
    have hin := iIn_lt hp hi
    obtain ⟨g1, g2, g3⟩ := hI
    have hi' := of_decide_eq_true hi
    have e1 : iAdd .i64 x.2.1 1 = x.2.1 + 1 := iAdd_one g1 (by omega)
    exact DG.tt hi (DG.tt hin (DG.bnd (spread_look_1.val _ _ (Br.eta (Brs.at g3.1 _) _)) (fun _ => DG.test (fun _ => DG.tt (decide_eq_true ⟨g1, by show x.2.1 < n; omega⟩) (DG.inl rfl ⟨by show 0 ≤ iAdd .i64 x.2.1 1; rw [e1]; omega, by show iAdd .i64 x.2.1 1 ≤ i + 1; rw [e1]; omega, g3.set (Br.eta (Brs.at g3.1 _) _) _⟩)) (fun _ => DG.inl rfl ⟨g1, by show x.2.1 ≤ i + 1; omega, g3⟩))))
  · obtain ⟨g1, g2, g3⟩ := hI
    exact DG.ff hi (DG.ex rfl ⟨⟨g1, by show x.2.1 ≤ n; omega⟩, g3⟩)
theorem val2 (a0 : Rows) (a1 : Row) (ha0 : Brs a0) : DV (fun k => (f k a0 a1).eval) (v a0 a1) (fun r => Brs r.1 ∧ 0 ≤ r.2 ∧ r.2 ≤ rLen a0) := by
  have hn : 0 ≤ rLen a0 ∧ rLen a0 ≤ 1048576 := ⟨rl_pos _, rl_le ha0⟩
  have hl : rLen (rTake a0 (rLen a0)) = rLen a0 := by unfold rTake rLen; simp
  unfold v
  dsimp only
  refine DG.bnd (slices_IndexFunc_api_Pod_api_Pod_c89.val _ _ (brs_take ha0 _)) (fun _ => ?_)
  have hlt := slices_IndexFunc_api_Pod_api_Pod_c89.lt (rTake a0 (rLen a0)) [.str (rStr a1 0)]
  have hge := slices_IndexFunc_api_Pod_api_Pod_c89.ge (rTake a0 (rLen a0)) [.str (rStr a1 0)]
  rw [hl] at hlt
  generalize slices_IndexFunc_api_Pod_api_Pod_c89.v (rTake a0 (rLen a0)) [.str (rStr a1 0)] = r0 at *
  refine DG.test (fun h => DG.ret ⟨ha0, hn.1, Int.le_refl _⟩) (fun h => ?_)
  have h0 : 0 ≤ r0 := by
    rcases hge with e | e
    · rw [e] at h; cases h
    · exact e
  have e1 : iAdd .i64 r0 1 = r0 + 1 := iAdd_one h0 (by omega)
  refine DG.bnd (w5_v (rLen a0) hn ([.str (rStr a1 0)], r0, a0) (iAdd .i64 r0 1) (by rw [e1]; omega) ⟨h0, by show r0 ≤ _; rw [e1]; omega, ha0, rfl⟩) (fun hq => ?_)
  obtain ⟨⟨q1, q2⟩, q3⟩ := hq
  exact DG.tt (decide_eq_true ⟨q1, q2, Int.le_refl _⟩) (DG.tt (decide_eq_true ⟨Int.le_refl _, q1, q2⟩) (DG.ret ⟨brs_fill q3.1 (br_cons (brc_str (Nat.zero_le _)) (br_cons (brc_str (Nat.zero_le _)) (br_cons (brc_str (Nat.zero_le _)) (br_cons brc_int (br_cons brc_int (br_cons brc_int (br_cons brc_int (br_cons brc_bool (br_cons brc_int (br_cons (brc_slice brs_nil) (br_cons (brc_slice brs_nil) (br_cons (brc_slice brs_nil) (br_cons (brc_slice brs_nil) (br_cons (brc_str (Nat.zero_le _)) (br_cons brc_int (br_cons brc_int (br_cons brc_int (br_cons (brc_slice brs_nil) (br_cons (brc_slice brs_nil) (br_cons (brc_slice brs_nil) (br_cons (brc_slice brs_nil) (br_cons (brc_slice brs_nil) (br_cons (brc_slice brs_nil) (br_cons brc_int (br_cons brc_bool (br_cons brc_int (br_cons brc_int (br_cons brc_int (br_cons (brc_slice brs_nil) (br_cons brc_int (br_cons (brc_str (Nat.zero_le _)) (br_cons (brc_str (Nat.zero_le _)) br_nil)))))))))))))))))))))))))))))))) _ _, q1, q2⟩))
theorem val (a0 : Rows) (a1 : Row) (ha0 : Brs a0) : DV (fun k => (f k a0 a1).eval) (v a0 a1) (Pp Brs Pt) := (val2 a0 a1 ha0).mono (fun h => ⟨h.1, trivial⟩)
theorem le (a0 : Rows) (a1 : Row) (ha0 : Brs a0) : 0 ≤ (v a0 a1).2 ∧ (v a0 a1).2 ≤ rLen a0 := (val2 a0 a1 ha0).post.2
end slices_DeleteFunc_api_Pod_api_Pod_c89
namespace pod_Active
def v (a0 : Row) : Bool := (bIte (bIte (iEq (rInt a0 23) 0) true (iEq (rInt a0 23) 1)) (bNot (rBool a0 7)) false)
theorem val (a0 : Row) : DV (fun k => (f k a0).eval) (v a0) Pt := (DG.ret trivial)
end pod_Active
namespace spread_Counts
def z0 : Row := [.int .i64 (0)]
def p5 (t : ByteArray) (i : Int) (q : Row) (x : Rows × Rows × Rows) : (Rows × Rows × Rows) ⊕ (Rows × Rows) :=
  let r0 := affinity_Domain.v (et 51 q) t
  .inl ((bif (bIte r0.2 (bNot (rBool (mGet x.2.1 (rStr q 2) [.bool false]) 0)) false) then mSet x.1 (rStr q 2) [.str r0.1] else x.1), mSet x.2.1 (rStr q 2) [.bool true],
    (bif r0.2 then mSet x.2.2 r0.1 [.int .i64 (iAdd .i64 (rInt (mGet x.2.2 r0.1 z0) 0) (0))] else x.2.2))
def z5 (x : Rows × Rows × Rows) : Rows × Rows := (x.1, x.2.2)
def w5 (t : ByteArray) (ns : Rows) : Rows × Rows := walk (p5 t) z5 ns 0 ([], [], [])
def dmOf (dm : Rows) (q : Row) : ByteArray := rStr (mGet dm (rStr q 13) [.str ByteArray.empty]) 0
def okP (ns : ByteArray) (sel dm : Rows) (q : Row) : Bool := bIte (bIte (bIte (mHas dm (rStr q 13)) (pod_Active.v (et 45 q)) false) (sEq (rStr q 1) ns) false) (label_Matches.v sel (rSl q 9)) false
def p15 (ns : ByteArray) (sel dm : Rows) (i : Int) (q : Row) (x : Rows) : Rows ⊕ Rows :=
  .inl (bif okP ns sel dm q then mSet x (dmOf dm q) [.int .i64 (iAdd .i64 (rInt (mGet x (dmOf dm q) z0) 0) (1))] else x)
def w15 (ns : ByteArray) (sel dm : Rows) (ps : Rows) (x : Rows) : Rows := walk (p15 ns sel dm) (fun x => x) ps 0 x
def m (a0 : Row) (a1 : ByteArray) (a2 : Row) : Rows := let r0 := w5 (rStr a2 1) (rSl a0 0); w15 a1 (rSl a2 2) r0.1 (rSl a0 1) r0.2
def v (a0 : Row) (a1 : ByteArray) (a2 : Row) : Rows := sortC (m a0 a1 a2)
/-- The domains that are held are counted. -/
def Kept (dm cs : Rows) : Prop := (∀ q, q ∈ dm → Br q) ∧ ∀ s, mHas dm s = true → mHas cs (rStr (mGet dm s [.str ByteArray.empty]) 0) = true
theorem size_dom (q : Row) (t : ByteArray) (h : Br q) (ht : t.size ≤ 1048576) : (affinity_Domain.v (et 51 q) t).1.size ≤ 1048576 := (affinity_Domain.val (et 51 q) t (Br.eta h _)).post.1
theorem w5_v (t : ByteArray) (ht : t.size ≤ 1048576) (c0 : ByteArray) (c3 c4 : Row) (ns : Rows) (hns : Brs ns) (ec : rStr c4 1 = t) :
    DV (fun k => iter (s5 k c0 ns (rLen ns) c3 c4) k ((fun (x : Rows × Rows × Rows) (i : Int) => (i, x.1, x.2.1, x.2.2)) ([], [], []) 0)) (w5 t ns) (fun r => MpI (rLen ns) r.2 ∧ Kept r.1 r.2) := by
  refine DV.walk (fun (x : Rows × Rows × Rows) (i : Int) => (i, x.1, x.2.1, x.2.2)) hns.1 (p5 t) z5 (fun (i : Int) (x : Rows × Rows × Rows) => MpI i x.2.2 ∧ Kept x.1 x.2.2) _ (fun i x hp hi hI => ?_) (fun i x hie hi hI => ?_) _ ⟨MpI.nil, all_nil, fun s h => by cases h⟩
  · have hin := iIn_lt hp hi
    have hq := hns.at i
    obtain ⟨g1, g2, g3⟩ := hI
    have hsz := size_dom (rAt ns i) t hq ht
    have hns' : (rStr (rAt ns i) 2).size ≤ 1048576 := Br.str hq 2
    subst ec
    refine DG.tt hi (DG.tt hin (DG.bnd (affinity_Domain.val _ _ (Br.eta hq _)) (fun _ => ?_)))
    unfold p5
    dsimp only
    generalize hd : affinity_Domain.v (et 51 (rAt ns i)) (rStr c4 1) = r0 at hsz ⊢
    have hb : Br [V.int .i64 (iAdd .i64 (rInt (mGet x.2.2 r0.1 z0) 0) (0))] := br_cons brc_int br_nil
    have hbs : Br [V.str r0.1] := br_cons hsz br_nil
    have kset : ∀ (cs' : Rows), (∀ s, mHas x.2.2 s = true → mHas cs' s = true) → Kept x.1 cs' := fun cs' h => ⟨g2, fun s hs => h _ (g3 s hs)⟩
    have kdm : ∀ (cs' : Rows), (∀ s, mHas x.2.2 s = true → mHas cs' s = true) → mHas cs' r0.1 = true → Kept (mSet x.1 (rStr (rAt ns i) 2) [.str r0.1]) cs' := fun cs' h h1 =>
      ⟨mSet_all g2 (br_cons hns' hbs), fun s hs => by
        rw [mSet_get]
        cases hse : sEq (rStr (rAt ns i) 2) s with
        | true => exact h1
        | false => rw [mSet_has, hse] at hs; exact h _ (g3 s hs)⟩
    cases hr : r0.2 with
    | true =>
      have hm : ∀ s, mHas x.2.2 s = true → mHas (mSet x.2.2 r0.1 [.int .i64 (iAdd .i64 (rInt (mGet x.2.2 r0.1 z0) 0) (0))]) s = true := fun s hs => by rw [mSet_has, hs]; simp
      have h1 : mHas (mSet x.2.2 r0.1 [.int .i64 (iAdd .i64 (rInt (mGet x.2.2 r0.1 z0) 0) (0))]) r0.1 = true := by rw [mSet_has, sEq_refl]; rfl
      cases hn : rBool (mGet x.2.1 (rStr (rAt ns i) 2) [.bool false]) 0 with
      | true => exact DG.inl rfl ⟨g1.set hsz hb, kset _ hm⟩
      | false => exact DG.inl rfl ⟨g1.set hsz hb, kdm _ hm h1⟩
    | false =>
      exact DG.inl rfl ⟨g1.le (by omega), kset _ (fun s hs => hs)⟩
  · subst hie
    exact DG.ff hi (DG.ex rfl hI)
theorem w15_v (c0 : ByteArray) (c3 : Row) (ps dm cs : Rows) (n : Int) (hps : Brs ps) (hc3 : Br c3) (hcs : MpI n cs) (hk : Kept dm cs) :
    DV (fun k => iter (s15 k c0 ps (rLen ps) c3 dm) k ((fun (x : Rows) (i : Int) => (i, x)) cs 0)) (w15 c0 (rSl c3 2) dm ps cs) (MpI n) := by
  refine (DV.walk (fun (x : Rows) (i : Int) => (i, x)) hps.1 (p15 c0 (rSl c3 2) dm) (fun x => x) (fun (i : Int) (x : Rows) => MpI n x ∧ Kept dm x) (fun x => MpI n x) (fun i x hp hi hI => ?_) (fun i x hie hi hI => ?_) cs ⟨hcs, hk⟩)
  · have hin := iIn_lt hp hi
    have hq := hps.at i
    obtain ⟨g1, g2, g3⟩ := hI
    refine DG.tt hi (DG.tt hin ?_)
    refine DG.opt (fun _ => pod_Active.val _) (fun _ => trivial) (fun _ => ?_)
    refine DG.opt (fun _ => label_Matches.val _ _ (hc3.sl 2) (hq.sl 9)) (fun _ => trivial) (fun _ => ?_)
    have hok : ∀ (a b c d : Bool), bIte (bIte (bIte a (bif a then b else default) false) c false) (bif (bIte (bIte a (bif a then b else default) false) c false) then d else default) false = bIte (bIte (bIte a b false) c false) d false := by
      intro a b c d; cases a <;> cases b <;> cases c <;> rfl
    rw [hok]
    have he : bIte (bIte (bIte (mHas dm (rStr (rAt ps i) 13)) (pod_Active.v (et 45 (rAt ps i))) false) (sEq (rStr (rAt ps i) 1) c0) false) (label_Matches.v (rSl c3 2) (rSl (rAt ps i) 9)) false = okP c0 (rSl c3 2) dm (rAt ps i) := rfl
    rw [he]
    unfold p15
    cases hb : okP c0 (rSl c3 2) dm (rAt ps i) with
    | true =>
      have hd : mHas dm (rStr (rAt ps i) 13) = true := by
        unfold okP at hb; exact and_l (and_l (and_l hb))
      have hh := g3 _ hd
      have hs : (dmOf dm (rAt ps i)).size ≤ 1048576 := Br.str (mGet_br (br_cons (Nat.zero_le _) br_nil) g2) 0
      exact DG.inl rfl ⟨g1.put hs (br_cons brc_int br_nil) hh, g2, fun s hs => by
        show mHas (mSet x _ _) _ = true
        rw [mSet_has, g3 s hs]; simp⟩
    | false => exact DG.inl rfl ⟨g1, g2, g3⟩
  · exact DG.ff hi (DG.ex rfl hI.1)
theorem g_v (a0 : Row) (a1 : ByteArray) (a2 : Row) (ha0 : Br a0) (ha1 : Sz 1048576 a1) (ha2 : Br a2) : DV (fun k => (g k a0 a1 a2).eval) (m a0 a1 a2) (MpI (rLen (rSl a0 0))) := by
  unfold m
  refine DG.bnd (w5_v (rStr a2 1) (ha2.str 1) a1 (et 26 a0) (et 112 a2) (rSl a0 0) (ha0.sl 0) rfl) (fun h => ?_)
  refine DG.bnd (w15_v a1 (et 112 a2) (rSl a0 1) _ _ _ (ha0.sl 1) (Br.eta ha2 _) h.1 h.2) (fun h2 => DG.ret h2)
theorem val2 (a0 : Row) (a1 : ByteArray) (a2 : Row) (ha0 : Br a0) (ha1 : Sz 1048576 a1) (ha2 : Br a2) : DV (fun k => (f k a0 a1 a2).eval) (v a0 a1 a2) (fun r => Brs r ∧ rLen r = rLen (m a0 a1 a2)) := by
  have hg := g_v a0 a1 a2 ha0 ha1 ha2
  have hle : rLen (rSl a0 0) ≤ 1048576 := rl_le (ha0.sl 0)
  refine DG.bnd hg (fun h => DG.tt (h.ok hle (by decide)) (DG.ret ?_))
  have hb := h.brs hle
  have hp := sortC_perm (m a0 a1 a2)
  exact ⟨⟨by rw [hp.length_eq]; exact hb.1, fun q hq => hb.2 q (hp.subset hq)⟩, by unfold rLen; rw [hp.length_eq]⟩
theorem val (a0 : Row) (a1 : ByteArray) (a2 : Row) (ha0 : Br a0) (ha1 : Sz 1048576 a1) (ha2 : Br a2) : DV (fun k => (f k a0 a1 a2).eval) (v a0 a1 a2) Brs := (val2 a0 a1 a2 ha0 ha1 ha2).mono (fun h => h.1)
end spread_Counts
namespace spread_look_2
def v (a0 : Row) (a1 : Row) : Bool := (sEq (rStr a0 0) (rStr a1 0))
theorem val (a0 : Row) (a1 : Row) : DV (fun k => (f k a0 a1).eval) (v a0 a1) Pt := (DG.ret trivial)
end spread_look_2
namespace slices_IndexFunc_api_Count_api_Count_c93
def p2 (i : Int) (q : Row) (x : Row) : (Row) ⊕ (Int ⊕ Unit) := (let r0 := (spread_look_2.v (et 117 q) [.str (rStr x 0)]); (bif r0 then (.inr (.inl i)) else (.inl [.str (rStr x 0)])))
def z2 (x : Row) : Int ⊕ Unit := (.inr ())
def w2 (c0 : Rows) (x0 : Row) : Int ⊕ Unit := walk p2 z2 c0 0 x0
def v (a0 : Rows) (a1 : Row) : Int := (Sum.elim (fun r0 => r0) (fun r1 => (-1)) (slices_IndexFunc_api_Count_api_Count_c93.w2 a0 [.str (rStr a1 0)]))
theorem w2_v (c0 : Rows) (c1 : Int) (hc0 : Brs c0) (ec1 : c1 = rLen c0) (x0 : Row) (h0 : True) : DV (fun k => iter (s2 k c0 c1) k ((fun (x : Row) (i : Int) => (x, i)) x0 0)) (w2 c0 x0) (Ps Pt Pt) := by
  subst ec1; refine DV.walk (fun (x : Row) (i : Int) => (x, i)) hc0.1 p2 z2 (fun (i : Int) (x : Row) => True) (Ps Pt Pt) (fun i x hp hi hI => ?_) (fun i x hie hi hI => ?_) x0 h0
  · have hlt := lt_of hc0.1 hi
    have hle := Int.le_of_lt hlt
    have hin := iIn_lt hp hi
    exact DG.tt hi (DG.tt hin (DG.bnd (spread_look_2.val _ _) (fun hr0 => (DG.test (fun h_2 => (DG.inr rfl trivial)) (fun h_2 => (DG.inl rfl trivial))))))
  · have hle := eq_le hc0.1 hie
    exact DG.ff hi (DG.ex rfl trivial)
theorem val (a0 : Rows) (a1 : Row) (ha0 : Brs a0) : DV (fun k => (f k a0 a1).eval) (v a0 a1) Pt := (DG.cas (slices_IndexFunc_api_Count_api_Count_c93.w2_v _ _ ha0 rfl _ trivial) (fun r0 hr0 => (DG.ret trivial)) (fun r1 hr1 => (DG.ret trivial)))
end slices_IndexFunc_api_Count_api_Count_c93
theorem slices_IndexFunc_api_Count_api_Count_c93.lt (a0 : Rows) (a1 : Row) : slices_IndexFunc_api_Count_api_Count_c93.v a0 a1 < rLen a0 := by
  have h0 : 0 ≤ rLen a0 := by unfold rLen; omega
  show Sum.elim (fun r0 => r0) (fun r1 => -1) (walk slices_IndexFunc_api_Count_api_Count_c93.p2 slices_IndexFunc_api_Count_api_Count_c93.z2 a0 0 [.str (rStr a1 0)]) < _
  rcases walk_index (p := slices_IndexFunc_api_Count_api_Count_c93.p2) (z := slices_IndexFunc_api_Count_api_Count_c93.z2) (es := a0) (i := 0) (x := [.str (rStr a1 0)]) (fun i q x => by
    unfold slices_IndexFunc_api_Count_api_Count_c93.p2
    generalize spread_look_2.v _ _ = b
    cases b
    · exact Or.inl ⟨_, rfl⟩
    · exact Or.inr rfl) (fun x => ⟨_, rfl⟩) with ⟨u, e⟩ | ⟨j, e, h1, h2⟩
  · rw [e]; show (-1 : Int) < _; omega
  · rw [e]; show j < _; omega
theorem slices_IndexFunc_api_Count_api_Count_c93.ge (a0 : Rows) (a1 : Row) : slices_IndexFunc_api_Count_api_Count_c93.v a0 a1 = -1 ∨ 0 ≤ slices_IndexFunc_api_Count_api_Count_c93.v a0 a1 := by
  show Sum.elim (fun r0 => r0) (fun r1 => -1) (walk slices_IndexFunc_api_Count_api_Count_c93.p2 slices_IndexFunc_api_Count_api_Count_c93.z2 a0 0 [.str (rStr a1 0)]) = -1 ∨ 0 ≤ Sum.elim (fun r0 => r0) (fun r1 => -1) (walk slices_IndexFunc_api_Count_api_Count_c93.p2 slices_IndexFunc_api_Count_api_Count_c93.z2 a0 0 [.str (rStr a1 0)])
  rcases walk_index (p := slices_IndexFunc_api_Count_api_Count_c93.p2) (z := slices_IndexFunc_api_Count_api_Count_c93.z2) (es := a0) (i := 0) (x := [.str (rStr a1 0)]) (fun i q x => by
    unfold slices_IndexFunc_api_Count_api_Count_c93.p2
    generalize spread_look_2.v _ _ = b
    cases b
    · exact Or.inl ⟨_, rfl⟩
    · exact Or.inr rfl) (fun x => ⟨_, rfl⟩) with ⟨u, e⟩ | ⟨j, e, h1, h2⟩
  · rw [e]; exact Or.inl rfl
  · rw [e]; exact Or.inr h1
namespace spread_look
def v (a0 : Row) (a1 : Row) (a2 : Row) (a3 : Row) : (Rows × Int × Bool) := (let r0 := (meta_KeyOf.v (et 32 a1)); (let r1 := (slices_Clone_api_Pod_api_Pod.vm (rSl a0 1)); (let r2 := (slices_DeleteFunc_api_Pod_api_Pod_c89.v (rTake r1.1 r1.2) [.str r0]); (let r3 := (spread_Counts.v [.slice 51 (rSl a0 0) .open, .slice 45 (rTake r2.1 r2.2) .open, .slice 86 (rSl a0 2) .open, .int .i64 (rInt a0 3)] (rStr a1 1) (et 112 a3)); (let r4 := (affinity_Domain.v (et 51 a2) (rStr a3 1)); (bif (bNot r4.2) then (r3, (-1), false) else (let r5 := (slices_IndexFunc_api_Count_api_Count_c93.v r3 [.str r4.1]); (r3, r5, true))))))))
theorem val (a0 : Row) (a1 : Row) (a2 : Row) (a3 : Row) (ha0 : Br a0) (ha1 : Br a1) (ha2 : Br a2) (ha3 : Br a3) : DV (fun k => (f k a0 a1 a2 a3).eval) (v a0 a1 a2 a3) (Pp Brs (Pp Pt Pt)) := (DG.bnd (meta_KeyOf.val _ (Br.eta ha1 _)) (fun hr0 => (DG.bnd (slices_Clone_api_Pod_api_Pod.valm _ (Br.sl ha0 _)) (fun hr1 => (DG.bnd (slices_DeleteFunc_api_Pod_api_Pod_c89.val _ _ (brs_take hr1.1 _)) (fun hr2 => (DG.bnd (spread_Counts.val _ _ _ (br_cons (brc_slice (Br.sl ha0 _)) (br_cons (brc_slice (brs_take hr2.1 _)) (br_cons (brc_slice (Br.sl ha0 _)) (br_cons brc_int br_nil)))) (Br.str ha1 _) (Br.eta ha3 _)) (fun hr3 => (DG.bnd (affinity_Domain.val _ _ (Br.eta ha2 _)) (fun hr4 => (DG.test (fun h_6 => (DG.ret ⟨hr3, ⟨trivial, trivial⟩⟩)) (fun h_6 => (DG.bnd (slices_IndexFunc_api_Count_api_Count_c93.val _ _ hr3) (fun hr5 => (DG.ret ⟨hr3, ⟨trivial, trivial⟩⟩)))))))))))))))
end spread_look
theorem spread_look.lt (a0 : Row) (a1 : Row) (a2 : Row) (a3 : Row) : (spread_look.v a0 a1 a2 a3).2.1 < rLen (spread_look.v a0 a1 a2 a3).1 := by
  unfold spread_look.v
  dsimp only
  generalize spread_Counts.v _ _ _ = r3
  generalize affinity_Domain.v _ _ = r4
  cases r4.2 with
  | false => have := rl_pos r3; show (-1 : Int) < rLen r3; omega
  | true => exact slices_IndexFunc_api_Count_api_Count_c93.lt _ _
namespace spread_Score
def p3 (c2 : Row) (c3 : Row) (c4 : Row) (i : Int) (q : Row) (x : Int) : (Int) ⊕ (Int) := (bif (rBool q 3) then (.inl x) else (let r0 := (spread_look.v (et 26 c2) (et 45 c3) (et 51 c4) (et 112 q)); (bif (bNot r0.2.2) then (.inl (iAdd .i64 x 40)) else (bif (iLe 0 r0.2.1) then (.inl (iAdd .i64 x (rInt (rAt r0.1 r0.2.1) 1))) else (.inl x)))))
def z3 (x : Int) : Int := x
def w3 (c0 : Rows) (c2 : Row) (c3 : Row) (c4 : Row) (x0 : Int) : Int := walk (p3 c2 c3 c4) z3 c0 0 x0
def v (a0 : Row) (a1 : Row) (a2 : Row) : Int := (let r0 := (spread_Score.w3 (rSl a1 21) (et 26 a0) (et 45 a1) (et 51 a2) 0); r0)
theorem w3_v (c0 : Rows) (c1 : Int) (c2 : Row) (c3 : Row) (c4 : Row) (hc0 : Brs c0) (hc2 : Br c2) (hc3 : Br c3) (hc4 : Br c4) (ec1 : c1 = rLen c0) (x0 : Int) (h0 : True) : DV (fun k => iter (s3 k c0 c1 c2 c3 c4) k ((fun (x : Int) (i : Int) => (x, i)) x0 0)) (w3 c0 c2 c3 c4 x0) Pt := by
  subst ec1; refine DV.walk (fun (x : Int) (i : Int) => (x, i)) hc0.1 (p3 c2 c3 c4) z3 (fun (i : Int) (x : Int) => True) Pt (fun i x hp hi hI => ?_) (fun i x hie hi hI => ?_) x0 h0
  · have hlt := lt_of hc0.1 hi
    have hle := Int.le_of_lt hlt
    have hin := iIn_lt hp hi
    exact DG.tt hi (DG.tt hin (DG.test (fun h_1 => (DG.inl rfl trivial)) (fun h_1 => (DG.bnd (spread_look.val _ _ _ _ (Br.eta hc2 _) (Br.eta hc3 _) (Br.eta hc4 _) (Br.eta (Brs.at hc0 _) _)) (fun hr0 => (DG.test (fun h_3 => (DG.inl rfl trivial)) (fun h_3 => (DG.test (fun h_4 => (DG.tt (decide_eq_true ⟨of_decide_eq_true h_4, spread_look.lt _ _ _ _⟩) (DG.inl rfl trivial))) (fun h_4 => (DG.inl rfl trivial))))))))))
  · have hle := eq_le hc0.1 hie
    exact DG.ff hi (DG.ex rfl trivial)
theorem val (a0 : Row) (a1 : Row) (a2 : Row) (ha0 : Br a0) (ha1 : Br a1) (ha2 : Br a2) : DV (fun k => (f k a0 a1 a2).eval) (v a0 a1 a2) Pt := (DG.bnd (spread_Score.w3_v _ _ _ _ _ (Br.sl ha1 _) (Br.eta ha0 _) (Br.eta ha1 _) (Br.eta ha2 _) rfl _ trivial) (fun hr0 => (DG.ret trivial)))
end spread_Score
namespace filter_Free_1
def v (a0 : Row) (a1 : Row) : Bool := (sEq (rStr a0 2) (rStr a1 0))
theorem val (a0 : Row) (a1 : Row) : DV (fun k => (f k a0 a1).eval) (v a0 a1) Pt := (DG.ret trivial)
end filter_Free_1
namespace slices_IndexFunc_api_Node_api_Node_c71
def p2 (i : Int) (q : Row) (x : Row) : (Row) ⊕ (Int ⊕ Unit) := (let r0 := (filter_Free_1.v (et 51 q) [.str (rStr x 0)]); (bif r0 then (.inr (.inl i)) else (.inl [.str (rStr x 0)])))
def z2 (x : Row) : Int ⊕ Unit := (.inr ())
def w2 (c0 : Rows) (x0 : Row) : Int ⊕ Unit := walk p2 z2 c0 0 x0
def v (a0 : Rows) (a1 : Row) : Int := (Sum.elim (fun r0 => r0) (fun r1 => (-1)) (slices_IndexFunc_api_Node_api_Node_c71.w2 a0 [.str (rStr a1 0)]))
theorem w2_v (c0 : Rows) (c1 : Int) (hc0 : Brs c0) (ec1 : c1 = rLen c0) (x0 : Row) (h0 : True) : DV (fun k => iter (s2 k c0 c1) k ((fun (x : Row) (i : Int) => (x, i)) x0 0)) (w2 c0 x0) (Ps Pt Pt) := by
  subst ec1; refine DV.walk (fun (x : Row) (i : Int) => (x, i)) hc0.1 p2 z2 (fun (i : Int) (x : Row) => True) (Ps Pt Pt) (fun i x hp hi hI => ?_) (fun i x hie hi hI => ?_) x0 h0
  · have hlt := lt_of hc0.1 hi
    have hle := Int.le_of_lt hlt
    have hin := iIn_lt hp hi
    exact DG.tt hi (DG.tt hin (DG.bnd (filter_Free_1.val _ _) (fun hr0 => (DG.test (fun h_2 => (DG.inr rfl trivial)) (fun h_2 => (DG.inl rfl trivial))))))
  · have hle := eq_le hc0.1 hie
    exact DG.ff hi (DG.ex rfl trivial)
theorem val (a0 : Rows) (a1 : Row) (ha0 : Brs a0) : DV (fun k => (f k a0 a1).eval) (v a0 a1) Pt := (DG.cas (slices_IndexFunc_api_Node_api_Node_c71.w2_v _ _ ha0 rfl _ trivial) (fun r0 hr0 => (DG.ret trivial)) (fun r1 hr1 => (DG.ret trivial)))
end slices_IndexFunc_api_Node_api_Node_c71
theorem slices_IndexFunc_api_Node_api_Node_c71.lt (a0 : Rows) (a1 : Row) : slices_IndexFunc_api_Node_api_Node_c71.v a0 a1 < rLen a0 := by
  have h0 : 0 ≤ rLen a0 := by unfold rLen; omega
  show Sum.elim (fun r0 => r0) (fun r1 => -1) (walk slices_IndexFunc_api_Node_api_Node_c71.p2 slices_IndexFunc_api_Node_api_Node_c71.z2 a0 0 [.str (rStr a1 0)]) < _
  rcases walk_index (p := slices_IndexFunc_api_Node_api_Node_c71.p2) (z := slices_IndexFunc_api_Node_api_Node_c71.z2) (es := a0) (i := 0) (x := [.str (rStr a1 0)]) (fun i q x => by
    unfold slices_IndexFunc_api_Node_api_Node_c71.p2
    generalize filter_Free_1.v _ _ = b
    cases b
    · exact Or.inl ⟨_, rfl⟩
    · exact Or.inr rfl) (fun x => ⟨_, rfl⟩) with ⟨u, e⟩ | ⟨j, e, h1, h2⟩
  · rw [e]; show (-1 : Int) < _; omega
  · rw [e]; show j < _; omega
theorem slices_IndexFunc_api_Node_api_Node_c71.ge (a0 : Rows) (a1 : Row) : slices_IndexFunc_api_Node_api_Node_c71.v a0 a1 = -1 ∨ 0 ≤ slices_IndexFunc_api_Node_api_Node_c71.v a0 a1 := by
  show Sum.elim (fun r0 => r0) (fun r1 => -1) (walk slices_IndexFunc_api_Node_api_Node_c71.p2 slices_IndexFunc_api_Node_api_Node_c71.z2 a0 0 [.str (rStr a1 0)]) = -1 ∨ 0 ≤ Sum.elim (fun r0 => r0) (fun r1 => -1) (walk slices_IndexFunc_api_Node_api_Node_c71.p2 slices_IndexFunc_api_Node_api_Node_c71.z2 a0 0 [.str (rStr a1 0)])
  rcases walk_index (p := slices_IndexFunc_api_Node_api_Node_c71.p2) (z := slices_IndexFunc_api_Node_api_Node_c71.z2) (es := a0) (i := 0) (x := [.str (rStr a1 0)]) (fun i q x => by
    unfold slices_IndexFunc_api_Node_api_Node_c71.p2
    generalize filter_Free_1.v _ _ = b
    cases b
    · exact Or.inl ⟨_, rfl⟩
    · exact Or.inr rfl) (fun x => ⟨_, rfl⟩) with ⟨u, e⟩ | ⟨j, e, h1, h2⟩
  · rw [e]; exact Or.inl rfl
  · rw [e]; exact Or.inr h1
namespace resource_clamp
def v (a0 : Int) : Int := (iMin (iMax a0 0) 1000000000000000)
theorem val (a0 : Int) : DV (fun k => (f k a0).eval) (v a0) Pt := (DG.ret trivial)
end resource_clamp
namespace resource_Add_1
def v (a0 : Int) (a1 : Int) : Int := (let r0 := (resource_clamp.v (iAdd .i64 a0 a1)); r0)
theorem val (a0 : Int) (a1 : Int) : DV (fun k => (f k a0 a1).eval) (v a0 a1) Pt := (DG.bnd (resource_clamp.val _) (fun hr0 => (DG.ret trivial)))
end resource_Add_1
namespace resource_each_c110
def v (a0 : Row) (a1 : Row) : Row := (let r0 := (resource_clamp.v (rInt a0 0)); (let r1 := (resource_clamp.v (rInt a1 0)); (let r2 := (resource_Add_1.v r0 r1); (let r3 := (resource_clamp.v (rInt a0 1)); (let r4 := (resource_clamp.v (rInt a1 1)); (let r5 := (resource_Add_1.v r3 r4); (let r6 := (resource_clamp.v (rInt a0 2)); (let r7 := (resource_clamp.v (rInt a1 2)); (let r8 := (resource_Add_1.v r6 r7); [.int .i64 r2, .int .i64 r5, .int .i64 r8])))))))))
theorem val (a0 : Row) (a1 : Row) : DV (fun k => (f k a0 a1).eval) (v a0 a1) Br := (DG.bnd (resource_clamp.val _) (fun hr0 => (DG.bnd (resource_clamp.val _) (fun hr1 => (DG.bnd (resource_Add_1.val _ _) (fun hr2 => (DG.bnd (resource_clamp.val _) (fun hr3 => (DG.bnd (resource_clamp.val _) (fun hr4 => (DG.bnd (resource_Add_1.val _ _) (fun hr5 => (DG.bnd (resource_clamp.val _) (fun hr6 => (DG.bnd (resource_clamp.val _) (fun hr7 => (DG.bnd (resource_Add_1.val _ _) (fun hr8 => (DG.ret (br_cons brc_int (br_cons brc_int (br_cons brc_int br_nil))))))))))))))))))))))
end resource_each_c110
namespace resource_Add
def v (a0 : Row) (a1 : Row) : Row := (let r0 := (resource_each_c110.v (et 47 a0) (et 47 a1)); (et 47 r0))
theorem val (a0 : Row) (a1 : Row) : DV (fun k => (f k a0 a1).eval) (v a0 a1) Br := (DG.bnd (resource_each_c110.val _ _) (fun hr0 => (DG.ret (Br.eta hr0 _))))
end resource_Add
namespace resource_Requests
def p3 (i : Int) (q : Row) (x : Row) : (Row) ⊕ (Row) := (let r0 := (resource_Add.v (et 47 x) (eo 47 q 2)); (.inl (et 47 r0)))
def z3 (x : Row) : Row := (et 47 x)
def w3 (c0 : Rows) (x0 : Row) : Row := walk p3 z3 c0 0 x0
def v (a0 : Row) : Row := (let r0 := (resource_Requests.w3 (rSl a0 4) [.int .i64 0, .int .i64 0, .int .i64 0]); (et 47 r0))
theorem w3_v (c0 : Rows) (c1 : Int) (c2 : Row) (hc0 : Brs c0) (ec1 : c1 = rLen c0) (x0 : Row) (h0 : True) : DV (fun k => iter (s3 k c0 c1 c2) k ((fun (x : Row) (i : Int) => (i, x)) x0 0)) (w3 c0 x0) Pt := by
  subst ec1; refine DV.walk (fun (x : Row) (i : Int) => (i, x)) hc0.1 p3 z3 (fun (i : Int) (x : Row) => True) Pt (fun i x hp hi hI => ?_) (fun i x hie hi hI => ?_) x0 h0
  · have hlt := lt_of hc0.1 hi
    have hle := Int.le_of_lt hlt
    have hin := iIn_lt hp hi
    exact DG.tt hi (DG.tt hin (DG.bnd (resource_Add.val _ _) (fun hr0 => (DG.inl rfl trivial))))
  · have hle := eq_le hc0.1 hie
    exact DG.ff hi (DG.ex rfl trivial)
theorem val (a0 : Row) (ha0 : Br a0) : DV (fun k => (f k a0).eval) (v a0) Pt := (DG.bnd (resource_Requests.w3_v _ _ _ (Br.sl ha0 _) rfl _ trivial) (fun hr0 => (DG.ret trivial)))
end resource_Requests
namespace resource_Sub_1
def v (a0 : Int) (a1 : Int) : Int := (let r0 := (resource_clamp.v (iSub .i64 a0 a1)); r0)
theorem val (a0 : Int) (a1 : Int) : DV (fun k => (f k a0 a1).eval) (v a0 a1) Pt := (DG.bnd (resource_clamp.val _) (fun hr0 => (DG.ret trivial)))
end resource_Sub_1
namespace resource_each_c74
def v (a0 : Row) (a1 : Row) : Row := (let r0 := (resource_clamp.v (rInt a0 0)); (let r1 := (resource_clamp.v (rInt a1 0)); (let r2 := (resource_Sub_1.v r0 r1); (let r3 := (resource_clamp.v (rInt a0 1)); (let r4 := (resource_clamp.v (rInt a1 1)); (let r5 := (resource_Sub_1.v r3 r4); (let r6 := (resource_clamp.v (rInt a0 2)); (let r7 := (resource_clamp.v (rInt a1 2)); (let r8 := (resource_Sub_1.v r6 r7); [.int .i64 r2, .int .i64 r5, .int .i64 r8])))))))))
theorem val (a0 : Row) (a1 : Row) : DV (fun k => (f k a0 a1).eval) (v a0 a1) Br := (DG.bnd (resource_clamp.val _) (fun hr0 => (DG.bnd (resource_clamp.val _) (fun hr1 => (DG.bnd (resource_Sub_1.val _ _) (fun hr2 => (DG.bnd (resource_clamp.val _) (fun hr3 => (DG.bnd (resource_clamp.val _) (fun hr4 => (DG.bnd (resource_Sub_1.val _ _) (fun hr5 => (DG.bnd (resource_clamp.val _) (fun hr6 => (DG.bnd (resource_clamp.val _) (fun hr7 => (DG.bnd (resource_Sub_1.val _ _) (fun hr8 => (DG.ret (br_cons brc_int (br_cons brc_int (br_cons brc_int br_nil))))))))))))))))))))))
end resource_each_c74
namespace resource_Sub
def v (a0 : Row) (a1 : Row) : Row := (let r0 := (resource_each_c74.v (et 47 a0) (et 47 a1)); (et 47 r0))
theorem val (a0 : Row) (a1 : Row) : DV (fun k => (f k a0 a1).eval) (v a0 a1) Br := (DG.bnd (resource_each_c74.val _ _) (fun hr0 => (DG.ret (Br.eta hr0 _))))
end resource_Sub
namespace filter_room
def p4 (c2 : Row) (i : Int) (q : Row) (x : Int × Row) : (Int × Row) ⊕ (Int × Row) := (bif (bIte (sEq (rStr q 13) (rStr c2 2)) (bIte (iEq (rInt q 23) 0) true (iEq (rInt q 23) 1)) false) then (let r0 := (resource_Requests.v (eo 40 q 13)); (let r1 := (resource_Add.v (et 47 x.2) (et 47 r0)); (.inl ((iSub .i64 x.1 1), (et 47 r1))))) else (.inl (x.1, (et 47 x.2))))
def z4 (x : Int × Row) : Int × Row := (x.1, et 47 x.2)
def w4 (c0 : Rows) (c2 : Row) (x0 : Int × Row) : Int × Row := walk (p4 c2) z4 c0 0 x0
def v (a0 : Rows) (a1 : Row) : (Row × Int) := (let r0 := (filter_room.w4 a0 (et 51 a1) ((iMax (rInt a1 16) 0), [.int .i64 0, .int .i64 0, .int .i64 0])); (let r1 := (resource_Sub.v (eo 47 a1 13) (et 47 r0.2)); (et 47 r1, iMax r0.1 0)))
theorem w4_v (c0 : Rows) (c1 : Int) (c2 : Row) (c3 : Row) (hc0 : Brs c0) (ec1 : c1 = rLen c0) (x0 : Int × Row) (h0 : True ∧ True) : DV (fun k => iter (s4 k c0 c1 c2 c3) k ((fun (x : Int × Row) (i : Int) => (x.1, i, x.2)) x0 0)) (w4 c0 c2 x0) (Pp Pt Pt) := by
  subst ec1; refine DV.walk (fun (x : Int × Row) (i : Int) => (x.1, i, x.2)) hc0.1 (p4 c2) z4 (fun (i : Int) (x : Int × Row) => True ∧ True) (Pp Pt Pt) (fun i x hp hi hI => ?_) (fun i x hie hi hI => ?_) x0 h0
  · have hlt := lt_of hc0.1 hi
    have hle := Int.le_of_lt hlt
    have hin := iIn_lt hp hi
    exact DG.tt hi (DG.tt hin (DG.test (fun h_1 => (DG.bnd (resource_Requests.val _ (br_etaL (Brs.at hc0 _) _ _)) (fun hr0 => (DG.bnd (resource_Add.val _ _) (fun hr1 => (DG.inl rfl ⟨trivial, trivial⟩)))))) (fun h_1 => (DG.inl rfl ⟨trivial, trivial⟩))))
  · have hle := eq_le hc0.1 hie
    exact DG.ff hi (DG.ex rfl ⟨trivial, trivial⟩)
theorem val (a0 : Rows) (a1 : Row) (ha0 : Brs a0) : DV (fun k => (f k a0 a1).eval) (v a0 a1) (Pp Br Pt) := (DG.bnd (filter_room.w4_v _ _ _ _ ha0 rfl _ ⟨trivial, trivial⟩) (fun hr0 => (DG.bnd (resource_Sub.val _ _) (fun hr1 => (DG.ret ⟨(Br.eta hr1 _), trivial⟩)))))
end filter_room
namespace filter_Free
def v (a0 : Row) (a1 : ByteArray) : (Row × Int) := (let r0 := (slices_IndexFunc_api_Node_api_Node_c71.v (rSl a0 0) [.str a1]); (bif (iLt r0 0) then ([.int .i64 0, .int .i64 0, .int .i64 0], 0) else (let r1 := (filter_room.v (rSl a0 1) (et 51 (rAt (rSl a0 0) r0))); (et 47 r1.1, r1.2))))
theorem val (a0 : Row) (a1 : ByteArray) (ha0 : Br a0) : DV (fun k => (f k a0 a1).eval) (v a0 a1) (Pp Br Pt) := (DG.bnd (slices_IndexFunc_api_Node_api_Node_c71.val _ _ (Br.sl ha0 _)) (fun hr0 => (DG.test (fun h_2 => (DG.ret ⟨(br_cons brc_int (br_cons brc_int (br_cons brc_int br_nil))), trivial⟩)) (fun h_2 => (DG.tt (idx_in (slices_IndexFunc_api_Node_api_Node_c71.lt _ _) h_2) (DG.bnd (filter_room.val _ _ (Br.sl ha0 _)) (fun hr1 => (DG.ret ⟨(Br.eta hr1.1 _), trivial⟩))))))))
end filter_Free
namespace score_share
def v (a0 : Int) (a1 : Int) : Int := (bif (iLe (iMin a1 1000000000000000) 0) then 0 else (let r0 := (score_clamp.v (iQuo .i64 (iMul .i64 100 a0) (iMin a1 1000000000000000)) 0 100); r0))
theorem val (a0 : Int) (a1 : Int) : DV (fun k => (f k a0 a1).eval) (v a0 a1) Pt := (DG.test (fun h_1 => (DG.ret trivial)) (fun h_1 => (DG.tt (share_ne h_1) (DG.bnd (score_clamp.val _ _ _) (fun hr0 => (DG.ret trivial))))))
end score_share
namespace score_shares
def v (a0 : Row) (a1 : Row) (a2 : Row) : (Int × Int) := (let r0 := (filter_Free.v (et 26 a0) (rStr a2 2)); (let r1 := (resource_Requests.v (eo 40 a1 13)); (let r2 := (resource_Sub.v (et 47 r0.1) (et 47 r1)); (let r3 := (score_share.v (rInt r2 0) (rInt a2 13)); (let r4 := (score_share.v (rInt r2 1) (rInt a2 14)); (r3, r4))))))
theorem val (a0 : Row) (a1 : Row) (a2 : Row) (ha0 : Br a0) (ha1 : Br a1) : DV (fun k => (f k a0 a1 a2).eval) (v a0 a1 a2) (Pp Pt Pt) := (DG.bnd (filter_Free.val _ _ (Br.eta ha0 _)) (fun hr0 => (DG.bnd (resource_Requests.val _ (br_etaL ha1 _ _)) (fun hr1 => (DG.bnd (resource_Sub.val _ _) (fun hr2 => (DG.bnd (score_share.val _ _) (fun hr3 => (DG.bnd (score_share.val _ _) (fun hr4 => (DG.ret ⟨trivial, trivial⟩)))))))))))
end score_shares
namespace score_Spare
def v (a0 : Row) (a1 : Row) (a2 : Row) : Int := (let r0 := (score_shares.v (et 26 a0) (et 45 a1) (et 51 a2)); (iQuo .i64 (iAdd .i64 r0.1 r0.2) 2))
theorem val (a0 : Row) (a1 : Row) (a2 : Row) (ha0 : Br a0) (ha1 : Br a1) : DV (fun k => (f k a0 a1 a2).eval) (v a0 a1 a2) Pt := (DG.bnd (score_shares.val _ _ _ (Br.eta ha0 _) (Br.eta ha1 _)) (fun hr0 => (DG.tt rfl (DG.ret trivial))))
end score_Spare
namespace score_Balance
def v (a0 : Row) (a1 : Row) (a2 : Row) : Int := (let r0 := (score_shares.v (et 26 a0) (et 45 a1) (et 51 a2)); (iSub .i64 100 (iMax (iSub .i64 r0.1 r0.2) (iSub .i64 r0.2 r0.1))))
theorem val (a0 : Row) (a1 : Row) (a2 : Row) (ha0 : Br a0) (ha1 : Br a1) : DV (fun k => (f k a0 a1 a2).eval) (v a0 a1 a2) Pt := (DG.bnd (score_shares.val _ _ _ (Br.eta ha0 _) (Br.eta ha1 _)) (fun hr0 => (DG.ret trivial)))
end score_Balance
namespace score_Total
def v (a0 : Row) (a1 : Row) (a2 : Row) : Int := (let r0 := (affinity_Preference.v (et 26 a0) (et 45 a1) (et 51 a2)); (let r1 := (score_clamp.v r0 (-100) 100); (let r2 := (taint_Soft.v (rSl a2 18) (rSl a1 22)); (let r3 := (spread_Score.v (et 26 a0) (et 45 a1) (et 51 a2)); (let r4 := (score_Spare.v (et 26 a0) (et 45 a1) (et 51 a2)); (let r5 := (score_Balance.v (et 26 a0) (et 45 a1) (et 51 a2)); (iSub .i64 (iAdd .i64 (iAdd .i64 r4 r5) r1) (iAdd .i64 (iMul .i64 10 r2) (iMul .i64 5 r3)))))))))
theorem val (a0 : Row) (a1 : Row) (a2 : Row) (ha0 : Br a0) (ha1 : Br a1) (ha2 : Br a2) : DV (fun k => (f k a0 a1 a2).eval) (v a0 a1 a2) Pt := (DG.bnd (affinity_Preference.val _ _ _ (Br.eta ha0 _) (Br.eta ha1 _) (Br.eta ha2 _)) (fun hr0 => (DG.bnd (score_clamp.val _ _ _) (fun hr1 => (DG.bnd (taint_Soft.val _ _ (Br.sl ha2 _) (Br.sl ha1 _)) (fun hr2 => (DG.bnd (spread_Score.val _ _ _ (Br.eta ha0 _) (Br.eta ha1 _) (Br.eta ha2 _)) (fun hr3 => (DG.bnd (score_Spare.val _ _ _ (Br.eta ha0 _) (Br.eta ha1 _)) (fun hr4 => (DG.bnd (score_Balance.val _ _ _ (Br.eta ha0 _) (Br.eta ha1 _)) (fun hr5 => (DG.ret trivial)))))))))))))
end score_Total
namespace score_Best
def p4 (c2 : Row) (c3 : Row) (i : Int) (q : Row) (x : ByteArray × Int × Bool) : (ByteArray × Int × Bool) ⊕ (ByteArray × Bool) := (let r0 := (slices_IndexFunc_api_Node_api_Node_c38.v (rSl c2 0) [.str (rStr q 0)]); (bif (iLt r0 0) then (.inl (x.1, x.2.1, x.2.2)) else (let r1 := (score_Total.v (et 26 c2) (et 45 c3) (et 51 (rAt (rSl c2 0) r0))); (bif (bIte (bNot x.2.2) true (iLt x.2.1 r1)) then (.inl ((rStr q 0), r1, true)) else (.inl (x.1, x.2.1, x.2.2))))))
def z4 (x : ByteArray × Int × Bool) : ByteArray × Bool := (x.1, x.2.2)
def w4 (c0 : Rows) (c2 : Row) (c3 : Row) (x0 : ByteArray × Int × Bool) : ByteArray × Bool := walk (p4 c2 c3) z4 c0 0 x0
def v (a0 : Row) (a1 : Row) (a2 : Rows) : (ByteArray × Bool) := (let r0 := (slices_Values_string_string.v a2); (let r1 := (slices_Sorted_string.v r0); (let r2 := (slices_Compact_string_string.v (rTake r1.1 r1.2)); (let r3 := (score_Best.w4 (rTake r2.1 r2.2) (et 26 a0) (et 45 a1) (ByteArray.empty, 0, false)); (r3.1, r3.2)))))
theorem w4_v (c0 : Rows) (c1 : Int) (c2 : Row) (c3 : Row) (hc0 : Brs c0) (hc2 : Br c2) (hc3 : Br c3) (ec1 : c1 = rLen c0) (x0 : ByteArray × Int × Bool) (h0 : Sz 1048576 x0.1 ∧ True ∧ True) : DV (fun k => iter (s4 k c0 c1 c2 c3) k ((fun (x : ByteArray × Int × Bool) (i : Int) => (x.1, x.2.1, x.2.2, i)) x0 0)) (w4 c0 c2 c3 x0) (Pp (Sz 1048576) Pt) := by
  subst ec1; refine DV.walk (fun (x : ByteArray × Int × Bool) (i : Int) => (x.1, x.2.1, x.2.2, i)) hc0.1 (p4 c2 c3) z4 (fun (i : Int) (x : ByteArray × Int × Bool) => Sz 1048576 x.1 ∧ True ∧ True) (Pp (Sz 1048576) Pt) (fun i x hp hi hI => ?_) (fun i x hie hi hI => ?_) x0 h0
  · have hlt := lt_of hc0.1 hi
    have hle := Int.le_of_lt hlt
    have hin := iIn_lt hp hi
    exact DG.tt hi (DG.tt hin (DG.bnd (slices_IndexFunc_api_Node_api_Node_c38.val _ _ (Br.sl hc2 _)) (fun hr0 => (DG.test (fun h_2 => (DG.inl rfl ⟨hI.1, ⟨trivial, trivial⟩⟩)) (fun h_2 => (DG.tt (idx_in (slices_IndexFunc_api_Node_api_Node_c38.lt _ _) h_2) (DG.bnd (score_Total.val _ _ _ (Br.eta hc2 _) (Br.eta hc3 _) (Br.eta (Brs.at (Br.sl hc2 _) _) _)) (fun hr1 => (DG.test (fun h_4 => (DG.inl rfl ⟨(Br.str (Brs.at hc0 _) _), ⟨trivial, trivial⟩⟩)) (fun h_4 => (DG.inl rfl ⟨hI.1, ⟨trivial, trivial⟩⟩)))))))))))
  · have hle := eq_le hc0.1 hie
    exact DG.ff hi (DG.ex rfl ⟨hI.1, trivial⟩)
theorem val (a0 : Row) (a1 : Row) (a2 : Rows) (ha0 : Br a0) (ha1 : Br a1) (ha2 : Brs a2) : DV (fun k => (f k a0 a1 a2).eval) (v a0 a1 a2) (Pp (Sz 1048576) Pt) := (DG.bnd (slices_Values_string_string.val _ ha2) (fun hr0 => (DG.bnd (slices_Sorted_string.val _ hr0) (fun hr1 => (DG.bnd (slices_Compact_string_string.val _ (brs_take hr1.1 _)) (fun hr2 => (DG.bnd (score_Best.w4_v _ _ _ _ (brs_take hr2.1 _) (Br.eta ha0 _) (Br.eta ha1 _) rfl _ ⟨(Nat.le_trans (@Nat.le_of_ble_eq_true _ 0 rfl) (Nat.le_of_ble_eq_true rfl)), ⟨trivial, trivial⟩⟩) (fun hr3 => (DG.ret ⟨hr3.1, trivial⟩)))))))))
end score_Best
namespace law39_lives
def v  : Bool := (let r0 := (score_Best.v [.slice 51 [[.str (bs [78, 111, 100, 101]), .str ByteArray.empty, .str (bs [97]), .int .i64 0, .int .i64 0, .int .i64 0, .int .i64 0, .bool false, .int .i64 0, .slice 89 [] .open, .slice 91 [] .open, .slice 9 [] .open, .slice 93 [] .open, .int .i64 1000, .int .i64 100, .int .i64 0, .int .i64 5, .bool false, .slice 72 [] .open, .bool true, .int .i64 0, .bool false, .bool false, .slice 247 [] .open], [.str (bs [78, 111, 100, 101]), .str ByteArray.empty, .str (bs [98]), .int .i64 0, .int .i64 0, .int .i64 0, .int .i64 0, .bool false, .int .i64 0, .slice 89 [] .open, .slice 91 [] .open, .slice 9 [] .open, .slice 93 [] .open, .int .i64 1000, .int .i64 100, .int .i64 0, .int .i64 5, .bool false, .slice 72 [[.str (bs [107]), .str ByteArray.empty, .int .i64 2, .int .i64 0]] .open, .bool true, .int .i64 0, .bool false, .bool false, .slice 247 [] .open]] .open, .slice 45 [] .open, .slice 86 [] .open, .int .i64 0] [.str (bs [80, 111, 100]), .str ByteArray.empty, .str (bs [112]), .int .i64 0, .int .i64 0, .int .i64 0, .int .i64 0, .bool false, .int .i64 0, .slice 89 [] .open, .slice 91 [] .open, .slice 9 [] .open, .slice 93 [] .open, .str ByteArray.empty, .int .i64 0, .int .i64 0, .int .i64 0, .slice 65 [[.str ByteArray.empty, .str ByteArray.empty, .int .i64 500, .int .i64 20, .int .i64 0, .int .i64 0, .int .i64 0, .int .i64 0, .slice 227 [] .open, .slice 227 [] .open, .slice 227 [] .open]] .open, .slice 129 [] .open, .slice 103 [] .open, .slice 107 [] .open, .slice 112 [] .open, .slice 147 [] .open, .int .i64 0, .bool false, .int .i64 0, .int .i64 0, .int .i64 0, .slice 218 [] .open, .int .i64 0, .str ByteArray.empty, .str ByteArray.empty] [[.str (bs [120])], [.str (bs [98])], [.str (bs [97])]]); (let r1 := (score_Spare.v [.slice 51 [[.str (bs [78, 111, 100, 101]), .str ByteArray.empty, .str (bs [97]), .int .i64 0, .int .i64 0, .int .i64 0, .int .i64 0, .bool false, .int .i64 0, .slice 89 [] .open, .slice 91 [] .open, .slice 9 [] .open, .slice 93 [] .open, .int .i64 1000, .int .i64 100, .int .i64 0, .int .i64 5, .bool false, .slice 72 [] .open, .bool true, .int .i64 0, .bool false, .bool false, .slice 247 [] .open], [.str (bs [78, 111, 100, 101]), .str ByteArray.empty, .str (bs [98]), .int .i64 0, .int .i64 0, .int .i64 0, .int .i64 0, .bool false, .int .i64 0, .slice 89 [] .open, .slice 91 [] .open, .slice 9 [] .open, .slice 93 [] .open, .int .i64 1000, .int .i64 100, .int .i64 0, .int .i64 5, .bool false, .slice 72 [[.str (bs [107]), .str ByteArray.empty, .int .i64 2, .int .i64 0]] .open, .bool true, .int .i64 0, .bool false, .bool false, .slice 247 [] .open]] .open, .slice 45 [] .open, .slice 86 [] .open, .int .i64 0] [.str (bs [80, 111, 100]), .str ByteArray.empty, .str (bs [112]), .int .i64 0, .int .i64 0, .int .i64 0, .int .i64 0, .bool false, .int .i64 0, .slice 89 [] .open, .slice 91 [] .open, .slice 9 [] .open, .slice 93 [] .open, .str ByteArray.empty, .int .i64 0, .int .i64 0, .int .i64 0, .slice 65 [[.str ByteArray.empty, .str ByteArray.empty, .int .i64 500, .int .i64 20, .int .i64 0, .int .i64 0, .int .i64 0, .int .i64 0, .slice 227 [] .open, .slice 227 [] .open, .slice 227 [] .open]] .open, .slice 129 [] .open, .slice 103 [] .open, .slice 107 [] .open, .slice 112 [] .open, .slice 147 [] .open, .int .i64 0, .bool false, .int .i64 0, .int .i64 0, .int .i64 0, .slice 218 [] .open, .int .i64 0, .str ByteArray.empty, .str ByteArray.empty] [.str (bs [78, 111, 100, 101]), .str ByteArray.empty, .str (bs [97]), .int .i64 0, .int .i64 0, .int .i64 0, .int .i64 0, .bool false, .int .i64 0, .slice 89 [] .open, .slice 91 [] .open, .slice 9 [] .open, .slice 93 [] .open, .int .i64 1000, .int .i64 100, .int .i64 0, .int .i64 5, .bool false, .slice 72 [] .open, .bool true, .int .i64 0, .bool false, .bool false, .slice 247 [] .open]); (let r2 := bif (iEq r1 65) then (score_Balance.v [.slice 51 [[.str (bs [78, 111, 100, 101]), .str ByteArray.empty, .str (bs [97]), .int .i64 0, .int .i64 0, .int .i64 0, .int .i64 0, .bool false, .int .i64 0, .slice 89 [] .open, .slice 91 [] .open, .slice 9 [] .open, .slice 93 [] .open, .int .i64 1000, .int .i64 100, .int .i64 0, .int .i64 5, .bool false, .slice 72 [] .open, .bool true, .int .i64 0, .bool false, .bool false, .slice 247 [] .open], [.str (bs [78, 111, 100, 101]), .str ByteArray.empty, .str (bs [98]), .int .i64 0, .int .i64 0, .int .i64 0, .int .i64 0, .bool false, .int .i64 0, .slice 89 [] .open, .slice 91 [] .open, .slice 9 [] .open, .slice 93 [] .open, .int .i64 1000, .int .i64 100, .int .i64 0, .int .i64 5, .bool false, .slice 72 [[.str (bs [107]), .str ByteArray.empty, .int .i64 2, .int .i64 0]] .open, .bool true, .int .i64 0, .bool false, .bool false, .slice 247 [] .open]] .open, .slice 45 [] .open, .slice 86 [] .open, .int .i64 0] [.str (bs [80, 111, 100]), .str ByteArray.empty, .str (bs [112]), .int .i64 0, .int .i64 0, .int .i64 0, .int .i64 0, .bool false, .int .i64 0, .slice 89 [] .open, .slice 91 [] .open, .slice 9 [] .open, .slice 93 [] .open, .str ByteArray.empty, .int .i64 0, .int .i64 0, .int .i64 0, .slice 65 [[.str ByteArray.empty, .str ByteArray.empty, .int .i64 500, .int .i64 20, .int .i64 0, .int .i64 0, .int .i64 0, .int .i64 0, .slice 227 [] .open, .slice 227 [] .open, .slice 227 [] .open]] .open, .slice 129 [] .open, .slice 103 [] .open, .slice 107 [] .open, .slice 112 [] .open, .slice 147 [] .open, .int .i64 0, .bool false, .int .i64 0, .int .i64 0, .int .i64 0, .slice 218 [] .open, .int .i64 0, .str ByteArray.empty, .str ByteArray.empty] [.str (bs [78, 111, 100, 101]), .str ByteArray.empty, .str (bs [97]), .int .i64 0, .int .i64 0, .int .i64 0, .int .i64 0, .bool false, .int .i64 0, .slice 89 [] .open, .slice 91 [] .open, .slice 9 [] .open, .slice 93 [] .open, .int .i64 1000, .int .i64 100, .int .i64 0, .int .i64 5, .bool false, .slice 72 [] .open, .bool true, .int .i64 0, .bool false, .bool false, .slice 247 [] .open]) else default; (let r3 := bif (bIte (iEq r1 65) (iEq r2 70) false) then (score_Total.v [.slice 51 [[.str (bs [78, 111, 100, 101]), .str ByteArray.empty, .str (bs [97]), .int .i64 0, .int .i64 0, .int .i64 0, .int .i64 0, .bool false, .int .i64 0, .slice 89 [] .open, .slice 91 [] .open, .slice 9 [] .open, .slice 93 [] .open, .int .i64 1000, .int .i64 100, .int .i64 0, .int .i64 5, .bool false, .slice 72 [] .open, .bool true, .int .i64 0, .bool false, .bool false, .slice 247 [] .open], [.str (bs [78, 111, 100, 101]), .str ByteArray.empty, .str (bs [98]), .int .i64 0, .int .i64 0, .int .i64 0, .int .i64 0, .bool false, .int .i64 0, .slice 89 [] .open, .slice 91 [] .open, .slice 9 [] .open, .slice 93 [] .open, .int .i64 1000, .int .i64 100, .int .i64 0, .int .i64 5, .bool false, .slice 72 [[.str (bs [107]), .str ByteArray.empty, .int .i64 2, .int .i64 0]] .open, .bool true, .int .i64 0, .bool false, .bool false, .slice 247 [] .open]] .open, .slice 45 [] .open, .slice 86 [] .open, .int .i64 0] [.str (bs [80, 111, 100]), .str ByteArray.empty, .str (bs [112]), .int .i64 0, .int .i64 0, .int .i64 0, .int .i64 0, .bool false, .int .i64 0, .slice 89 [] .open, .slice 91 [] .open, .slice 9 [] .open, .slice 93 [] .open, .str ByteArray.empty, .int .i64 0, .int .i64 0, .int .i64 0, .slice 65 [[.str ByteArray.empty, .str ByteArray.empty, .int .i64 500, .int .i64 20, .int .i64 0, .int .i64 0, .int .i64 0, .int .i64 0, .slice 227 [] .open, .slice 227 [] .open, .slice 227 [] .open]] .open, .slice 129 [] .open, .slice 103 [] .open, .slice 107 [] .open, .slice 112 [] .open, .slice 147 [] .open, .int .i64 0, .bool false, .int .i64 0, .int .i64 0, .int .i64 0, .slice 218 [] .open, .int .i64 0, .str ByteArray.empty, .str ByteArray.empty] [.str (bs [78, 111, 100, 101]), .str ByteArray.empty, .str (bs [97]), .int .i64 0, .int .i64 0, .int .i64 0, .int .i64 0, .bool false, .int .i64 0, .slice 89 [] .open, .slice 91 [] .open, .slice 9 [] .open, .slice 93 [] .open, .int .i64 1000, .int .i64 100, .int .i64 0, .int .i64 5, .bool false, .slice 72 [] .open, .bool true, .int .i64 0, .bool false, .bool false, .slice 247 [] .open]) else default; (let r4 := bif (bIte (bIte (iEq r1 65) (iEq r2 70) false) (iEq r3 135) false) then (score_Total.v [.slice 51 [[.str (bs [78, 111, 100, 101]), .str ByteArray.empty, .str (bs [97]), .int .i64 0, .int .i64 0, .int .i64 0, .int .i64 0, .bool false, .int .i64 0, .slice 89 [] .open, .slice 91 [] .open, .slice 9 [] .open, .slice 93 [] .open, .int .i64 1000, .int .i64 100, .int .i64 0, .int .i64 5, .bool false, .slice 72 [] .open, .bool true, .int .i64 0, .bool false, .bool false, .slice 247 [] .open], [.str (bs [78, 111, 100, 101]), .str ByteArray.empty, .str (bs [98]), .int .i64 0, .int .i64 0, .int .i64 0, .int .i64 0, .bool false, .int .i64 0, .slice 89 [] .open, .slice 91 [] .open, .slice 9 [] .open, .slice 93 [] .open, .int .i64 1000, .int .i64 100, .int .i64 0, .int .i64 5, .bool false, .slice 72 [[.str (bs [107]), .str ByteArray.empty, .int .i64 2, .int .i64 0]] .open, .bool true, .int .i64 0, .bool false, .bool false, .slice 247 [] .open]] .open, .slice 45 [] .open, .slice 86 [] .open, .int .i64 0] [.str (bs [80, 111, 100]), .str ByteArray.empty, .str (bs [112]), .int .i64 0, .int .i64 0, .int .i64 0, .int .i64 0, .bool false, .int .i64 0, .slice 89 [] .open, .slice 91 [] .open, .slice 9 [] .open, .slice 93 [] .open, .str ByteArray.empty, .int .i64 0, .int .i64 0, .int .i64 0, .slice 65 [[.str ByteArray.empty, .str ByteArray.empty, .int .i64 500, .int .i64 20, .int .i64 0, .int .i64 0, .int .i64 0, .int .i64 0, .slice 227 [] .open, .slice 227 [] .open, .slice 227 [] .open]] .open, .slice 129 [] .open, .slice 103 [] .open, .slice 107 [] .open, .slice 112 [] .open, .slice 147 [] .open, .int .i64 0, .bool false, .int .i64 0, .int .i64 0, .int .i64 0, .slice 218 [] .open, .int .i64 0, .str ByteArray.empty, .str ByteArray.empty] [.str (bs [78, 111, 100, 101]), .str ByteArray.empty, .str (bs [98]), .int .i64 0, .int .i64 0, .int .i64 0, .int .i64 0, .bool false, .int .i64 0, .slice 89 [] .open, .slice 91 [] .open, .slice 9 [] .open, .slice 93 [] .open, .int .i64 1000, .int .i64 100, .int .i64 0, .int .i64 5, .bool false, .slice 72 [[.str (bs [107]), .str ByteArray.empty, .int .i64 2, .int .i64 0]] .open, .bool true, .int .i64 0, .bool false, .bool false, .slice 247 [] .open]) else default; (bIte (bIte (bIte (bIte (bIte (iEq r1 65) (iEq r2 70) false) (iEq r3 135) false) (iEq r4 125) false) (sEq r0.1 (bs [97])) false) r0.2 false))))))
theorem val  : DV (fun k => (f k ).eval) (v ) Pt := (DG.bnd (score_Best.val _ _ _ (br_cons (brc_slice (brs_of (Nat.le_of_ble_eq_true rfl) (all_cons (br_cons (brc_str (Nat.le_trans (@Nat.le_of_ble_eq_true _ 4 rfl) (Nat.le_of_ble_eq_true rfl))) (br_cons (brc_str (Nat.le_trans (@Nat.le_of_ble_eq_true _ 0 rfl) (Nat.le_of_ble_eq_true rfl))) (br_cons (brc_str (Nat.le_trans (@Nat.le_of_ble_eq_true _ 1 rfl) (Nat.le_of_ble_eq_true rfl))) (br_cons brc_int (br_cons brc_int (br_cons brc_int (br_cons brc_int (br_cons brc_bool (br_cons brc_int (br_cons (brc_slice (brs_of (Nat.le_of_ble_eq_true rfl) all_nil)) (br_cons (brc_slice (brs_of (Nat.le_of_ble_eq_true rfl) all_nil)) (br_cons (brc_slice (brs_of (Nat.le_of_ble_eq_true rfl) all_nil)) (br_cons (brc_slice (brs_of (Nat.le_of_ble_eq_true rfl) all_nil)) (br_cons brc_int (br_cons brc_int (br_cons brc_int (br_cons brc_int (br_cons brc_bool (br_cons (brc_slice (brs_of (Nat.le_of_ble_eq_true rfl) all_nil)) (br_cons brc_bool (br_cons brc_int (br_cons brc_bool (br_cons brc_bool (br_cons (brc_slice (brs_of (Nat.le_of_ble_eq_true rfl) all_nil)) br_nil)))))))))))))))))))))))) (all_cons (br_cons (brc_str (Nat.le_trans (@Nat.le_of_ble_eq_true _ 4 rfl) (Nat.le_of_ble_eq_true rfl))) (br_cons (brc_str (Nat.le_trans (@Nat.le_of_ble_eq_true _ 0 rfl) (Nat.le_of_ble_eq_true rfl))) (br_cons (brc_str (Nat.le_trans (@Nat.le_of_ble_eq_true _ 1 rfl) (Nat.le_of_ble_eq_true rfl))) (br_cons brc_int (br_cons brc_int (br_cons brc_int (br_cons brc_int (br_cons brc_bool (br_cons brc_int (br_cons (brc_slice (brs_of (Nat.le_of_ble_eq_true rfl) all_nil)) (br_cons (brc_slice (brs_of (Nat.le_of_ble_eq_true rfl) all_nil)) (br_cons (brc_slice (brs_of (Nat.le_of_ble_eq_true rfl) all_nil)) (br_cons (brc_slice (brs_of (Nat.le_of_ble_eq_true rfl) all_nil)) (br_cons brc_int (br_cons brc_int (br_cons brc_int (br_cons brc_int (br_cons brc_bool (br_cons (brc_slice (brs_of (Nat.le_of_ble_eq_true rfl) (all_cons (br_cons (brc_str (Nat.le_trans (@Nat.le_of_ble_eq_true _ 1 rfl) (Nat.le_of_ble_eq_true rfl))) (br_cons (brc_str (Nat.le_trans (@Nat.le_of_ble_eq_true _ 0 rfl) (Nat.le_of_ble_eq_true rfl))) (br_cons brc_int (br_cons brc_int br_nil)))) all_nil))) (br_cons brc_bool (br_cons brc_int (br_cons brc_bool (br_cons brc_bool (br_cons (brc_slice (brs_of (Nat.le_of_ble_eq_true rfl) all_nil)) br_nil)))))))))))))))))))))))) all_nil)))) (br_cons (brc_slice (brs_of (Nat.le_of_ble_eq_true rfl) all_nil)) (br_cons (brc_slice (brs_of (Nat.le_of_ble_eq_true rfl) all_nil)) (br_cons brc_int br_nil)))) (br_cons (brc_str (Nat.le_trans (@Nat.le_of_ble_eq_true _ 3 rfl) (Nat.le_of_ble_eq_true rfl))) (br_cons (brc_str (Nat.le_trans (@Nat.le_of_ble_eq_true _ 0 rfl) (Nat.le_of_ble_eq_true rfl))) (br_cons (brc_str (Nat.le_trans (@Nat.le_of_ble_eq_true _ 1 rfl) (Nat.le_of_ble_eq_true rfl))) (br_cons brc_int (br_cons brc_int (br_cons brc_int (br_cons brc_int (br_cons brc_bool (br_cons brc_int (br_cons (brc_slice (brs_of (Nat.le_of_ble_eq_true rfl) all_nil)) (br_cons (brc_slice (brs_of (Nat.le_of_ble_eq_true rfl) all_nil)) (br_cons (brc_slice (brs_of (Nat.le_of_ble_eq_true rfl) all_nil)) (br_cons (brc_slice (brs_of (Nat.le_of_ble_eq_true rfl) all_nil)) (br_cons (brc_str (Nat.le_trans (@Nat.le_of_ble_eq_true _ 0 rfl) (Nat.le_of_ble_eq_true rfl))) (br_cons brc_int (br_cons brc_int (br_cons brc_int (br_cons (brc_slice (brs_of (Nat.le_of_ble_eq_true rfl) (all_cons (br_cons (brc_str (Nat.le_trans (@Nat.le_of_ble_eq_true _ 0 rfl) (Nat.le_of_ble_eq_true rfl))) (br_cons (brc_str (Nat.le_trans (@Nat.le_of_ble_eq_true _ 0 rfl) (Nat.le_of_ble_eq_true rfl))) (br_cons brc_int (br_cons brc_int (br_cons brc_int (br_cons brc_int (br_cons brc_int (br_cons brc_int (br_cons (brc_slice (brs_of (Nat.le_of_ble_eq_true rfl) all_nil)) (br_cons (brc_slice (brs_of (Nat.le_of_ble_eq_true rfl) all_nil)) (br_cons (brc_slice (brs_of (Nat.le_of_ble_eq_true rfl) all_nil)) br_nil))))))))))) all_nil))) (br_cons (brc_slice (brs_of (Nat.le_of_ble_eq_true rfl) all_nil)) (br_cons (brc_slice (brs_of (Nat.le_of_ble_eq_true rfl) all_nil)) (br_cons (brc_slice (brs_of (Nat.le_of_ble_eq_true rfl) all_nil)) (br_cons (brc_slice (brs_of (Nat.le_of_ble_eq_true rfl) all_nil)) (br_cons (brc_slice (brs_of (Nat.le_of_ble_eq_true rfl) all_nil)) (br_cons brc_int (br_cons brc_bool (br_cons brc_int (br_cons brc_int (br_cons brc_int (br_cons (brc_slice (brs_of (Nat.le_of_ble_eq_true rfl) all_nil)) (br_cons brc_int (br_cons (brc_str (Nat.le_trans (@Nat.le_of_ble_eq_true _ 0 rfl) (Nat.le_of_ble_eq_true rfl))) (br_cons (brc_str (Nat.le_trans (@Nat.le_of_ble_eq_true _ 0 rfl) (Nat.le_of_ble_eq_true rfl))) br_nil)))))))))))))))))))))))))))))))) (brs_of (Nat.le_of_ble_eq_true rfl) (all_cons (br_cons (brc_str (Nat.le_trans (@Nat.le_of_ble_eq_true _ 1 rfl) (Nat.le_of_ble_eq_true rfl))) br_nil) (all_cons (br_cons (brc_str (Nat.le_trans (@Nat.le_of_ble_eq_true _ 1 rfl) (Nat.le_of_ble_eq_true rfl))) br_nil) (all_cons (br_cons (brc_str (Nat.le_trans (@Nat.le_of_ble_eq_true _ 1 rfl) (Nat.le_of_ble_eq_true rfl))) br_nil) all_nil))))) (fun hr0 => (DG.bnd (score_Spare.val _ _ _ (br_cons (brc_slice (brs_of (Nat.le_of_ble_eq_true rfl) (all_cons (br_cons (brc_str (Nat.le_trans (@Nat.le_of_ble_eq_true _ 4 rfl) (Nat.le_of_ble_eq_true rfl))) (br_cons (brc_str (Nat.le_trans (@Nat.le_of_ble_eq_true _ 0 rfl) (Nat.le_of_ble_eq_true rfl))) (br_cons (brc_str (Nat.le_trans (@Nat.le_of_ble_eq_true _ 1 rfl) (Nat.le_of_ble_eq_true rfl))) (br_cons brc_int (br_cons brc_int (br_cons brc_int (br_cons brc_int (br_cons brc_bool (br_cons brc_int (br_cons (brc_slice (brs_of (Nat.le_of_ble_eq_true rfl) all_nil)) (br_cons (brc_slice (brs_of (Nat.le_of_ble_eq_true rfl) all_nil)) (br_cons (brc_slice (brs_of (Nat.le_of_ble_eq_true rfl) all_nil)) (br_cons (brc_slice (brs_of (Nat.le_of_ble_eq_true rfl) all_nil)) (br_cons brc_int (br_cons brc_int (br_cons brc_int (br_cons brc_int (br_cons brc_bool (br_cons (brc_slice (brs_of (Nat.le_of_ble_eq_true rfl) all_nil)) (br_cons brc_bool (br_cons brc_int (br_cons brc_bool (br_cons brc_bool (br_cons (brc_slice (brs_of (Nat.le_of_ble_eq_true rfl) all_nil)) br_nil)))))))))))))))))))))))) (all_cons (br_cons (brc_str (Nat.le_trans (@Nat.le_of_ble_eq_true _ 4 rfl) (Nat.le_of_ble_eq_true rfl))) (br_cons (brc_str (Nat.le_trans (@Nat.le_of_ble_eq_true _ 0 rfl) (Nat.le_of_ble_eq_true rfl))) (br_cons (brc_str (Nat.le_trans (@Nat.le_of_ble_eq_true _ 1 rfl) (Nat.le_of_ble_eq_true rfl))) (br_cons brc_int (br_cons brc_int (br_cons brc_int (br_cons brc_int (br_cons brc_bool (br_cons brc_int (br_cons (brc_slice (brs_of (Nat.le_of_ble_eq_true rfl) all_nil)) (br_cons (brc_slice (brs_of (Nat.le_of_ble_eq_true rfl) all_nil)) (br_cons (brc_slice (brs_of (Nat.le_of_ble_eq_true rfl) all_nil)) (br_cons (brc_slice (brs_of (Nat.le_of_ble_eq_true rfl) all_nil)) (br_cons brc_int (br_cons brc_int (br_cons brc_int (br_cons brc_int (br_cons brc_bool (br_cons (brc_slice (brs_of (Nat.le_of_ble_eq_true rfl) (all_cons (br_cons (brc_str (Nat.le_trans (@Nat.le_of_ble_eq_true _ 1 rfl) (Nat.le_of_ble_eq_true rfl))) (br_cons (brc_str (Nat.le_trans (@Nat.le_of_ble_eq_true _ 0 rfl) (Nat.le_of_ble_eq_true rfl))) (br_cons brc_int (br_cons brc_int br_nil)))) all_nil))) (br_cons brc_bool (br_cons brc_int (br_cons brc_bool (br_cons brc_bool (br_cons (brc_slice (brs_of (Nat.le_of_ble_eq_true rfl) all_nil)) br_nil)))))))))))))))))))))))) all_nil)))) (br_cons (brc_slice (brs_of (Nat.le_of_ble_eq_true rfl) all_nil)) (br_cons (brc_slice (brs_of (Nat.le_of_ble_eq_true rfl) all_nil)) (br_cons brc_int br_nil)))) (br_cons (brc_str (Nat.le_trans (@Nat.le_of_ble_eq_true _ 3 rfl) (Nat.le_of_ble_eq_true rfl))) (br_cons (brc_str (Nat.le_trans (@Nat.le_of_ble_eq_true _ 0 rfl) (Nat.le_of_ble_eq_true rfl))) (br_cons (brc_str (Nat.le_trans (@Nat.le_of_ble_eq_true _ 1 rfl) (Nat.le_of_ble_eq_true rfl))) (br_cons brc_int (br_cons brc_int (br_cons brc_int (br_cons brc_int (br_cons brc_bool (br_cons brc_int (br_cons (brc_slice (brs_of (Nat.le_of_ble_eq_true rfl) all_nil)) (br_cons (brc_slice (brs_of (Nat.le_of_ble_eq_true rfl) all_nil)) (br_cons (brc_slice (brs_of (Nat.le_of_ble_eq_true rfl) all_nil)) (br_cons (brc_slice (brs_of (Nat.le_of_ble_eq_true rfl) all_nil)) (br_cons (brc_str (Nat.le_trans (@Nat.le_of_ble_eq_true _ 0 rfl) (Nat.le_of_ble_eq_true rfl))) (br_cons brc_int (br_cons brc_int (br_cons brc_int (br_cons (brc_slice (brs_of (Nat.le_of_ble_eq_true rfl) (all_cons (br_cons (brc_str (Nat.le_trans (@Nat.le_of_ble_eq_true _ 0 rfl) (Nat.le_of_ble_eq_true rfl))) (br_cons (brc_str (Nat.le_trans (@Nat.le_of_ble_eq_true _ 0 rfl) (Nat.le_of_ble_eq_true rfl))) (br_cons brc_int (br_cons brc_int (br_cons brc_int (br_cons brc_int (br_cons brc_int (br_cons brc_int (br_cons (brc_slice (brs_of (Nat.le_of_ble_eq_true rfl) all_nil)) (br_cons (brc_slice (brs_of (Nat.le_of_ble_eq_true rfl) all_nil)) (br_cons (brc_slice (brs_of (Nat.le_of_ble_eq_true rfl) all_nil)) br_nil))))))))))) all_nil))) (br_cons (brc_slice (brs_of (Nat.le_of_ble_eq_true rfl) all_nil)) (br_cons (brc_slice (brs_of (Nat.le_of_ble_eq_true rfl) all_nil)) (br_cons (brc_slice (brs_of (Nat.le_of_ble_eq_true rfl) all_nil)) (br_cons (brc_slice (brs_of (Nat.le_of_ble_eq_true rfl) all_nil)) (br_cons (brc_slice (brs_of (Nat.le_of_ble_eq_true rfl) all_nil)) (br_cons brc_int (br_cons brc_bool (br_cons brc_int (br_cons brc_int (br_cons brc_int (br_cons (brc_slice (brs_of (Nat.le_of_ble_eq_true rfl) all_nil)) (br_cons brc_int (br_cons (brc_str (Nat.le_trans (@Nat.le_of_ble_eq_true _ 0 rfl) (Nat.le_of_ble_eq_true rfl))) (br_cons (brc_str (Nat.le_trans (@Nat.le_of_ble_eq_true _ 0 rfl) (Nat.le_of_ble_eq_true rfl))) br_nil))))))))))))))))))))))))))))))))) (fun hr1 => (DG.opt (fun h_3 => (score_Balance.val _ _ _ (br_cons (brc_slice (brs_of (Nat.le_of_ble_eq_true rfl) (all_cons (br_cons (brc_str (Nat.le_trans (@Nat.le_of_ble_eq_true _ 4 rfl) (Nat.le_of_ble_eq_true rfl))) (br_cons (brc_str (Nat.le_trans (@Nat.le_of_ble_eq_true _ 0 rfl) (Nat.le_of_ble_eq_true rfl))) (br_cons (brc_str (Nat.le_trans (@Nat.le_of_ble_eq_true _ 1 rfl) (Nat.le_of_ble_eq_true rfl))) (br_cons brc_int (br_cons brc_int (br_cons brc_int (br_cons brc_int (br_cons brc_bool (br_cons brc_int (br_cons (brc_slice (brs_of (Nat.le_of_ble_eq_true rfl) all_nil)) (br_cons (brc_slice (brs_of (Nat.le_of_ble_eq_true rfl) all_nil)) (br_cons (brc_slice (brs_of (Nat.le_of_ble_eq_true rfl) all_nil)) (br_cons (brc_slice (brs_of (Nat.le_of_ble_eq_true rfl) all_nil)) (br_cons brc_int (br_cons brc_int (br_cons brc_int (br_cons brc_int (br_cons brc_bool (br_cons (brc_slice (brs_of (Nat.le_of_ble_eq_true rfl) all_nil)) (br_cons brc_bool (br_cons brc_int (br_cons brc_bool (br_cons brc_bool (br_cons (brc_slice (brs_of (Nat.le_of_ble_eq_true rfl) all_nil)) br_nil)))))))))))))))))))))))) (all_cons (br_cons (brc_str (Nat.le_trans (@Nat.le_of_ble_eq_true _ 4 rfl) (Nat.le_of_ble_eq_true rfl))) (br_cons (brc_str (Nat.le_trans (@Nat.le_of_ble_eq_true _ 0 rfl) (Nat.le_of_ble_eq_true rfl))) (br_cons (brc_str (Nat.le_trans (@Nat.le_of_ble_eq_true _ 1 rfl) (Nat.le_of_ble_eq_true rfl))) (br_cons brc_int (br_cons brc_int (br_cons brc_int (br_cons brc_int (br_cons brc_bool (br_cons brc_int (br_cons (brc_slice (brs_of (Nat.le_of_ble_eq_true rfl) all_nil)) (br_cons (brc_slice (brs_of (Nat.le_of_ble_eq_true rfl) all_nil)) (br_cons (brc_slice (brs_of (Nat.le_of_ble_eq_true rfl) all_nil)) (br_cons (brc_slice (brs_of (Nat.le_of_ble_eq_true rfl) all_nil)) (br_cons brc_int (br_cons brc_int (br_cons brc_int (br_cons brc_int (br_cons brc_bool (br_cons (brc_slice (brs_of (Nat.le_of_ble_eq_true rfl) (all_cons (br_cons (brc_str (Nat.le_trans (@Nat.le_of_ble_eq_true _ 1 rfl) (Nat.le_of_ble_eq_true rfl))) (br_cons (brc_str (Nat.le_trans (@Nat.le_of_ble_eq_true _ 0 rfl) (Nat.le_of_ble_eq_true rfl))) (br_cons brc_int (br_cons brc_int br_nil)))) all_nil))) (br_cons brc_bool (br_cons brc_int (br_cons brc_bool (br_cons brc_bool (br_cons (brc_slice (brs_of (Nat.le_of_ble_eq_true rfl) all_nil)) br_nil)))))))))))))))))))))))) all_nil)))) (br_cons (brc_slice (brs_of (Nat.le_of_ble_eq_true rfl) all_nil)) (br_cons (brc_slice (brs_of (Nat.le_of_ble_eq_true rfl) all_nil)) (br_cons brc_int br_nil)))) (br_cons (brc_str (Nat.le_trans (@Nat.le_of_ble_eq_true _ 3 rfl) (Nat.le_of_ble_eq_true rfl))) (br_cons (brc_str (Nat.le_trans (@Nat.le_of_ble_eq_true _ 0 rfl) (Nat.le_of_ble_eq_true rfl))) (br_cons (brc_str (Nat.le_trans (@Nat.le_of_ble_eq_true _ 1 rfl) (Nat.le_of_ble_eq_true rfl))) (br_cons brc_int (br_cons brc_int (br_cons brc_int (br_cons brc_int (br_cons brc_bool (br_cons brc_int (br_cons (brc_slice (brs_of (Nat.le_of_ble_eq_true rfl) all_nil)) (br_cons (brc_slice (brs_of (Nat.le_of_ble_eq_true rfl) all_nil)) (br_cons (brc_slice (brs_of (Nat.le_of_ble_eq_true rfl) all_nil)) (br_cons (brc_slice (brs_of (Nat.le_of_ble_eq_true rfl) all_nil)) (br_cons (brc_str (Nat.le_trans (@Nat.le_of_ble_eq_true _ 0 rfl) (Nat.le_of_ble_eq_true rfl))) (br_cons brc_int (br_cons brc_int (br_cons brc_int (br_cons (brc_slice (brs_of (Nat.le_of_ble_eq_true rfl) (all_cons (br_cons (brc_str (Nat.le_trans (@Nat.le_of_ble_eq_true _ 0 rfl) (Nat.le_of_ble_eq_true rfl))) (br_cons (brc_str (Nat.le_trans (@Nat.le_of_ble_eq_true _ 0 rfl) (Nat.le_of_ble_eq_true rfl))) (br_cons brc_int (br_cons brc_int (br_cons brc_int (br_cons brc_int (br_cons brc_int (br_cons brc_int (br_cons (brc_slice (brs_of (Nat.le_of_ble_eq_true rfl) all_nil)) (br_cons (brc_slice (brs_of (Nat.le_of_ble_eq_true rfl) all_nil)) (br_cons (brc_slice (brs_of (Nat.le_of_ble_eq_true rfl) all_nil)) br_nil))))))))))) all_nil))) (br_cons (brc_slice (brs_of (Nat.le_of_ble_eq_true rfl) all_nil)) (br_cons (brc_slice (brs_of (Nat.le_of_ble_eq_true rfl) all_nil)) (br_cons (brc_slice (brs_of (Nat.le_of_ble_eq_true rfl) all_nil)) (br_cons (brc_slice (brs_of (Nat.le_of_ble_eq_true rfl) all_nil)) (br_cons (brc_slice (brs_of (Nat.le_of_ble_eq_true rfl) all_nil)) (br_cons brc_int (br_cons brc_bool (br_cons brc_int (br_cons brc_int (br_cons brc_int (br_cons (brc_slice (brs_of (Nat.le_of_ble_eq_true rfl) all_nil)) (br_cons brc_int (br_cons (brc_str (Nat.le_trans (@Nat.le_of_ble_eq_true _ 0 rfl) (Nat.le_of_ble_eq_true rfl))) (br_cons (brc_str (Nat.le_trans (@Nat.le_of_ble_eq_true _ 0 rfl) (Nat.le_of_ble_eq_true rfl))) br_nil)))))))))))))))))))))))))))))))))) (fun _ => trivial) (fun hr2 => (DG.opt (fun h_4 => (score_Total.val _ _ _ (br_cons (brc_slice (brs_of (Nat.le_of_ble_eq_true rfl) (all_cons (br_cons (brc_str (Nat.le_trans (@Nat.le_of_ble_eq_true _ 4 rfl) (Nat.le_of_ble_eq_true rfl))) (br_cons (brc_str (Nat.le_trans (@Nat.le_of_ble_eq_true _ 0 rfl) (Nat.le_of_ble_eq_true rfl))) (br_cons (brc_str (Nat.le_trans (@Nat.le_of_ble_eq_true _ 1 rfl) (Nat.le_of_ble_eq_true rfl))) (br_cons brc_int (br_cons brc_int (br_cons brc_int (br_cons brc_int (br_cons brc_bool (br_cons brc_int (br_cons (brc_slice (brs_of (Nat.le_of_ble_eq_true rfl) all_nil)) (br_cons (brc_slice (brs_of (Nat.le_of_ble_eq_true rfl) all_nil)) (br_cons (brc_slice (brs_of (Nat.le_of_ble_eq_true rfl) all_nil)) (br_cons (brc_slice (brs_of (Nat.le_of_ble_eq_true rfl) all_nil)) (br_cons brc_int (br_cons brc_int (br_cons brc_int (br_cons brc_int (br_cons brc_bool (br_cons (brc_slice (brs_of (Nat.le_of_ble_eq_true rfl) all_nil)) (br_cons brc_bool (br_cons brc_int (br_cons brc_bool (br_cons brc_bool (br_cons (brc_slice (brs_of (Nat.le_of_ble_eq_true rfl) all_nil)) br_nil)))))))))))))))))))))))) (all_cons (br_cons (brc_str (Nat.le_trans (@Nat.le_of_ble_eq_true _ 4 rfl) (Nat.le_of_ble_eq_true rfl))) (br_cons (brc_str (Nat.le_trans (@Nat.le_of_ble_eq_true _ 0 rfl) (Nat.le_of_ble_eq_true rfl))) (br_cons (brc_str (Nat.le_trans (@Nat.le_of_ble_eq_true _ 1 rfl) (Nat.le_of_ble_eq_true rfl))) (br_cons brc_int (br_cons brc_int (br_cons brc_int (br_cons brc_int (br_cons brc_bool (br_cons brc_int (br_cons (brc_slice (brs_of (Nat.le_of_ble_eq_true rfl) all_nil)) (br_cons (brc_slice (brs_of (Nat.le_of_ble_eq_true rfl) all_nil)) (br_cons (brc_slice (brs_of (Nat.le_of_ble_eq_true rfl) all_nil)) (br_cons (brc_slice (brs_of (Nat.le_of_ble_eq_true rfl) all_nil)) (br_cons brc_int (br_cons brc_int (br_cons brc_int (br_cons brc_int (br_cons brc_bool (br_cons (brc_slice (brs_of (Nat.le_of_ble_eq_true rfl) (all_cons (br_cons (brc_str (Nat.le_trans (@Nat.le_of_ble_eq_true _ 1 rfl) (Nat.le_of_ble_eq_true rfl))) (br_cons (brc_str (Nat.le_trans (@Nat.le_of_ble_eq_true _ 0 rfl) (Nat.le_of_ble_eq_true rfl))) (br_cons brc_int (br_cons brc_int br_nil)))) all_nil))) (br_cons brc_bool (br_cons brc_int (br_cons brc_bool (br_cons brc_bool (br_cons (brc_slice (brs_of (Nat.le_of_ble_eq_true rfl) all_nil)) br_nil)))))))))))))))))))))))) all_nil)))) (br_cons (brc_slice (brs_of (Nat.le_of_ble_eq_true rfl) all_nil)) (br_cons (brc_slice (brs_of (Nat.le_of_ble_eq_true rfl) all_nil)) (br_cons brc_int br_nil)))) (br_cons (brc_str (Nat.le_trans (@Nat.le_of_ble_eq_true _ 3 rfl) (Nat.le_of_ble_eq_true rfl))) (br_cons (brc_str (Nat.le_trans (@Nat.le_of_ble_eq_true _ 0 rfl) (Nat.le_of_ble_eq_true rfl))) (br_cons (brc_str (Nat.le_trans (@Nat.le_of_ble_eq_true _ 1 rfl) (Nat.le_of_ble_eq_true rfl))) (br_cons brc_int (br_cons brc_int (br_cons brc_int (br_cons brc_int (br_cons brc_bool (br_cons brc_int (br_cons (brc_slice (brs_of (Nat.le_of_ble_eq_true rfl) all_nil)) (br_cons (brc_slice (brs_of (Nat.le_of_ble_eq_true rfl) all_nil)) (br_cons (brc_slice (brs_of (Nat.le_of_ble_eq_true rfl) all_nil)) (br_cons (brc_slice (brs_of (Nat.le_of_ble_eq_true rfl) all_nil)) (br_cons (brc_str (Nat.le_trans (@Nat.le_of_ble_eq_true _ 0 rfl) (Nat.le_of_ble_eq_true rfl))) (br_cons brc_int (br_cons brc_int (br_cons brc_int (br_cons (brc_slice (brs_of (Nat.le_of_ble_eq_true rfl) (all_cons (br_cons (brc_str (Nat.le_trans (@Nat.le_of_ble_eq_true _ 0 rfl) (Nat.le_of_ble_eq_true rfl))) (br_cons (brc_str (Nat.le_trans (@Nat.le_of_ble_eq_true _ 0 rfl) (Nat.le_of_ble_eq_true rfl))) (br_cons brc_int (br_cons brc_int (br_cons brc_int (br_cons brc_int (br_cons brc_int (br_cons brc_int (br_cons (brc_slice (brs_of (Nat.le_of_ble_eq_true rfl) all_nil)) (br_cons (brc_slice (brs_of (Nat.le_of_ble_eq_true rfl) all_nil)) (br_cons (brc_slice (brs_of (Nat.le_of_ble_eq_true rfl) all_nil)) br_nil))))))))))) all_nil))) (br_cons (brc_slice (brs_of (Nat.le_of_ble_eq_true rfl) all_nil)) (br_cons (brc_slice (brs_of (Nat.le_of_ble_eq_true rfl) all_nil)) (br_cons (brc_slice (brs_of (Nat.le_of_ble_eq_true rfl) all_nil)) (br_cons (brc_slice (brs_of (Nat.le_of_ble_eq_true rfl) all_nil)) (br_cons (brc_slice (brs_of (Nat.le_of_ble_eq_true rfl) all_nil)) (br_cons brc_int (br_cons brc_bool (br_cons brc_int (br_cons brc_int (br_cons brc_int (br_cons (brc_slice (brs_of (Nat.le_of_ble_eq_true rfl) all_nil)) (br_cons brc_int (br_cons (brc_str (Nat.le_trans (@Nat.le_of_ble_eq_true _ 0 rfl) (Nat.le_of_ble_eq_true rfl))) (br_cons (brc_str (Nat.le_trans (@Nat.le_of_ble_eq_true _ 0 rfl) (Nat.le_of_ble_eq_true rfl))) br_nil)))))))))))))))))))))))))))))))) (br_cons (brc_str (Nat.le_trans (@Nat.le_of_ble_eq_true _ 4 rfl) (Nat.le_of_ble_eq_true rfl))) (br_cons (brc_str (Nat.le_trans (@Nat.le_of_ble_eq_true _ 0 rfl) (Nat.le_of_ble_eq_true rfl))) (br_cons (brc_str (Nat.le_trans (@Nat.le_of_ble_eq_true _ 1 rfl) (Nat.le_of_ble_eq_true rfl))) (br_cons brc_int (br_cons brc_int (br_cons brc_int (br_cons brc_int (br_cons brc_bool (br_cons brc_int (br_cons (brc_slice (brs_of (Nat.le_of_ble_eq_true rfl) all_nil)) (br_cons (brc_slice (brs_of (Nat.le_of_ble_eq_true rfl) all_nil)) (br_cons (brc_slice (brs_of (Nat.le_of_ble_eq_true rfl) all_nil)) (br_cons (brc_slice (brs_of (Nat.le_of_ble_eq_true rfl) all_nil)) (br_cons brc_int (br_cons brc_int (br_cons brc_int (br_cons brc_int (br_cons brc_bool (br_cons (brc_slice (brs_of (Nat.le_of_ble_eq_true rfl) all_nil)) (br_cons brc_bool (br_cons brc_int (br_cons brc_bool (br_cons brc_bool (br_cons (brc_slice (brs_of (Nat.le_of_ble_eq_true rfl) all_nil)) br_nil)))))))))))))))))))))))))) (fun _ => trivial) (fun hr3 => (DG.opt (fun h_5 => (score_Total.val _ _ _ (br_cons (brc_slice (brs_of (Nat.le_of_ble_eq_true rfl) (all_cons (br_cons (brc_str (Nat.le_trans (@Nat.le_of_ble_eq_true _ 4 rfl) (Nat.le_of_ble_eq_true rfl))) (br_cons (brc_str (Nat.le_trans (@Nat.le_of_ble_eq_true _ 0 rfl) (Nat.le_of_ble_eq_true rfl))) (br_cons (brc_str (Nat.le_trans (@Nat.le_of_ble_eq_true _ 1 rfl) (Nat.le_of_ble_eq_true rfl))) (br_cons brc_int (br_cons brc_int (br_cons brc_int (br_cons brc_int (br_cons brc_bool (br_cons brc_int (br_cons (brc_slice (brs_of (Nat.le_of_ble_eq_true rfl) all_nil)) (br_cons (brc_slice (brs_of (Nat.le_of_ble_eq_true rfl) all_nil)) (br_cons (brc_slice (brs_of (Nat.le_of_ble_eq_true rfl) all_nil)) (br_cons (brc_slice (brs_of (Nat.le_of_ble_eq_true rfl) all_nil)) (br_cons brc_int (br_cons brc_int (br_cons brc_int (br_cons brc_int (br_cons brc_bool (br_cons (brc_slice (brs_of (Nat.le_of_ble_eq_true rfl) all_nil)) (br_cons brc_bool (br_cons brc_int (br_cons brc_bool (br_cons brc_bool (br_cons (brc_slice (brs_of (Nat.le_of_ble_eq_true rfl) all_nil)) br_nil)))))))))))))))))))))))) (all_cons (br_cons (brc_str (Nat.le_trans (@Nat.le_of_ble_eq_true _ 4 rfl) (Nat.le_of_ble_eq_true rfl))) (br_cons (brc_str (Nat.le_trans (@Nat.le_of_ble_eq_true _ 0 rfl) (Nat.le_of_ble_eq_true rfl))) (br_cons (brc_str (Nat.le_trans (@Nat.le_of_ble_eq_true _ 1 rfl) (Nat.le_of_ble_eq_true rfl))) (br_cons brc_int (br_cons brc_int (br_cons brc_int (br_cons brc_int (br_cons brc_bool (br_cons brc_int (br_cons (brc_slice (brs_of (Nat.le_of_ble_eq_true rfl) all_nil)) (br_cons (brc_slice (brs_of (Nat.le_of_ble_eq_true rfl) all_nil)) (br_cons (brc_slice (brs_of (Nat.le_of_ble_eq_true rfl) all_nil)) (br_cons (brc_slice (brs_of (Nat.le_of_ble_eq_true rfl) all_nil)) (br_cons brc_int (br_cons brc_int (br_cons brc_int (br_cons brc_int (br_cons brc_bool (br_cons (brc_slice (brs_of (Nat.le_of_ble_eq_true rfl) (all_cons (br_cons (brc_str (Nat.le_trans (@Nat.le_of_ble_eq_true _ 1 rfl) (Nat.le_of_ble_eq_true rfl))) (br_cons (brc_str (Nat.le_trans (@Nat.le_of_ble_eq_true _ 0 rfl) (Nat.le_of_ble_eq_true rfl))) (br_cons brc_int (br_cons brc_int br_nil)))) all_nil))) (br_cons brc_bool (br_cons brc_int (br_cons brc_bool (br_cons brc_bool (br_cons (brc_slice (brs_of (Nat.le_of_ble_eq_true rfl) all_nil)) br_nil)))))))))))))))))))))))) all_nil)))) (br_cons (brc_slice (brs_of (Nat.le_of_ble_eq_true rfl) all_nil)) (br_cons (brc_slice (brs_of (Nat.le_of_ble_eq_true rfl) all_nil)) (br_cons brc_int br_nil)))) (br_cons (brc_str (Nat.le_trans (@Nat.le_of_ble_eq_true _ 3 rfl) (Nat.le_of_ble_eq_true rfl))) (br_cons (brc_str (Nat.le_trans (@Nat.le_of_ble_eq_true _ 0 rfl) (Nat.le_of_ble_eq_true rfl))) (br_cons (brc_str (Nat.le_trans (@Nat.le_of_ble_eq_true _ 1 rfl) (Nat.le_of_ble_eq_true rfl))) (br_cons brc_int (br_cons brc_int (br_cons brc_int (br_cons brc_int (br_cons brc_bool (br_cons brc_int (br_cons (brc_slice (brs_of (Nat.le_of_ble_eq_true rfl) all_nil)) (br_cons (brc_slice (brs_of (Nat.le_of_ble_eq_true rfl) all_nil)) (br_cons (brc_slice (brs_of (Nat.le_of_ble_eq_true rfl) all_nil)) (br_cons (brc_slice (brs_of (Nat.le_of_ble_eq_true rfl) all_nil)) (br_cons (brc_str (Nat.le_trans (@Nat.le_of_ble_eq_true _ 0 rfl) (Nat.le_of_ble_eq_true rfl))) (br_cons brc_int (br_cons brc_int (br_cons brc_int (br_cons (brc_slice (brs_of (Nat.le_of_ble_eq_true rfl) (all_cons (br_cons (brc_str (Nat.le_trans (@Nat.le_of_ble_eq_true _ 0 rfl) (Nat.le_of_ble_eq_true rfl))) (br_cons (brc_str (Nat.le_trans (@Nat.le_of_ble_eq_true _ 0 rfl) (Nat.le_of_ble_eq_true rfl))) (br_cons brc_int (br_cons brc_int (br_cons brc_int (br_cons brc_int (br_cons brc_int (br_cons brc_int (br_cons (brc_slice (brs_of (Nat.le_of_ble_eq_true rfl) all_nil)) (br_cons (brc_slice (brs_of (Nat.le_of_ble_eq_true rfl) all_nil)) (br_cons (brc_slice (brs_of (Nat.le_of_ble_eq_true rfl) all_nil)) br_nil))))))))))) all_nil))) (br_cons (brc_slice (brs_of (Nat.le_of_ble_eq_true rfl) all_nil)) (br_cons (brc_slice (brs_of (Nat.le_of_ble_eq_true rfl) all_nil)) (br_cons (brc_slice (brs_of (Nat.le_of_ble_eq_true rfl) all_nil)) (br_cons (brc_slice (brs_of (Nat.le_of_ble_eq_true rfl) all_nil)) (br_cons (brc_slice (brs_of (Nat.le_of_ble_eq_true rfl) all_nil)) (br_cons brc_int (br_cons brc_bool (br_cons brc_int (br_cons brc_int (br_cons brc_int (br_cons (brc_slice (brs_of (Nat.le_of_ble_eq_true rfl) all_nil)) (br_cons brc_int (br_cons (brc_str (Nat.le_trans (@Nat.le_of_ble_eq_true _ 0 rfl) (Nat.le_of_ble_eq_true rfl))) (br_cons (brc_str (Nat.le_trans (@Nat.le_of_ble_eq_true _ 0 rfl) (Nat.le_of_ble_eq_true rfl))) br_nil)))))))))))))))))))))))))))))))) (br_cons (brc_str (Nat.le_trans (@Nat.le_of_ble_eq_true _ 4 rfl) (Nat.le_of_ble_eq_true rfl))) (br_cons (brc_str (Nat.le_trans (@Nat.le_of_ble_eq_true _ 0 rfl) (Nat.le_of_ble_eq_true rfl))) (br_cons (brc_str (Nat.le_trans (@Nat.le_of_ble_eq_true _ 1 rfl) (Nat.le_of_ble_eq_true rfl))) (br_cons brc_int (br_cons brc_int (br_cons brc_int (br_cons brc_int (br_cons brc_bool (br_cons brc_int (br_cons (brc_slice (brs_of (Nat.le_of_ble_eq_true rfl) all_nil)) (br_cons (brc_slice (brs_of (Nat.le_of_ble_eq_true rfl) all_nil)) (br_cons (brc_slice (brs_of (Nat.le_of_ble_eq_true rfl) all_nil)) (br_cons (brc_slice (brs_of (Nat.le_of_ble_eq_true rfl) all_nil)) (br_cons brc_int (br_cons brc_int (br_cons brc_int (br_cons brc_int (br_cons brc_bool (br_cons (brc_slice (brs_of (Nat.le_of_ble_eq_true rfl) (all_cons (br_cons (brc_str (Nat.le_trans (@Nat.le_of_ble_eq_true _ 1 rfl) (Nat.le_of_ble_eq_true rfl))) (br_cons (brc_str (Nat.le_trans (@Nat.le_of_ble_eq_true _ 0 rfl) (Nat.le_of_ble_eq_true rfl))) (br_cons brc_int (br_cons brc_int br_nil)))) all_nil))) (br_cons brc_bool (br_cons brc_int (br_cons brc_bool (br_cons brc_bool (br_cons (brc_slice (brs_of (Nat.le_of_ble_eq_true rfl) all_nil)) br_nil)))))))))))))))))))))))))) (fun _ => trivial) (fun hr4 => (DG.ret trivial)))))))))))
end law39_lives
theorem or_ff {a b : Bool} (h : bIte a true b = false) : a = false ∧ b = false := by
  cases a with
  | true => cases h
  | false => exact ⟨rfl, h⟩
theorem rem_lt {a n : Int} (ha : 0 ≤ a ∧ a ≤ 255) (h : iLt 0 n = true) : 0 ≤ iRem (iCv .i64 a) n ∧ iRem (iCv .i64 a) n < n := by
  have h := of_decide_eq_true h
  have e : iCv .i64 a = a := by unfold iCv; exact IntWalk.i64_in _ (by omega)
  rw [e]
  unfold iRem
  exact ⟨Int.tmod_nonneg _ ha.1, Int.tmod_lt_of_pos _ h⟩
theorem ten {r0 r1 : Bool} {a2 : Rows} (h : bIte (bIte (bNot r0) true (iLt 10 (rLen a2))) true (bNot r1) = false) : rLen a2 ≤ 10 := by
  have := of_decide_eq_false (or_ff (or_ff h).1).2
  omega
theorem cut_len (a : Rows) (l h : Int) : (rCut a l h).length ≤ a.length := by
  unfold rCut
  rw [List.length_drop, List.length_take]; omega
theorem rOk_few {b : Nat} {n m : Int} (hb : b ≤ 134217728) (hn : n ≤ 100) (hm : m ≤ 100) (h0 : 0 ≤ n) (h1 : 0 ≤ m) : rOk b n m = true := by
  refine decide_eq_true ?_
  have h2 : (n + m) * (b : Int) ≤ 200 * 134217728 := Int.mul_le_mul (by omega) (by omega) (by omega) (by omega)
  omega
theorem turn_len (a : Rows) (k : Int) : (rCat (rCat [] (rCut a k (rLen a))) (rCut a 0 k)).length ≤ a.length + a.length := by
  have h1 := cut_len a k (rLen a)
  have h2 := cut_len a 0 k
  unfold rCat
  simp only [List.length_append, List.length_nil]; omega
theorem brs_turn {a : Rows} (h : Brs a) (hl : rLen a ≤ 10) {k : Int} {r : Row} (hr : Br r) : Brs (rCat (rCat (rCat [] (rCut a k (rLen a))) (rCut a 0 k)) [r]) := by
  have h3 := turn_len a k
  have hl' : a.length ≤ 10 := by unfold rLen at hl; omega
  have hm : ∀ l h : Int, ∀ q, q ∈ rCut a l h → q ∈ a := fun l h q hq => List.mem_of_mem_take (List.mem_of_mem_drop hq)
  refine ⟨?_, fun q hq => ?_⟩
  · show (_ ++ [r]).length ≤ _
    rw [List.length_append, List.length_singleton]; omega
  · rcases List.mem_append.1 hq with hq | hq
    · rcases List.mem_append.1 hq with hq | hq
      · rcases List.mem_append.1 hq with hq | hq
        · cases hq
        · exact h.2 q (hm _ _ q hq)
      · exact h.2 q (hm _ _ q hq)
    · rw [List.mem_singleton.1 hq]; exact hr
namespace ref38_Occupies
def v (a0 : Row) (a1 : ByteArray) : Bool := (bIte (sEq (rStr a0 13) a1) (bIte (iEq (rInt a0 23) 0) true (iEq (rInt a0 23) 1)) false)
theorem val (a0 : Row) (a1 : ByteArray) : DV (fun k => (f k a0 a1).eval) (v a0 a1) Pt := (DG.ret trivial)
end ref38_Occupies
namespace ref02_clamp
def v (a0 : Int) : Int := (iMin 1000000000000000 (iMax 0 a0))
theorem val (a0 : Int) : DV (fun k => (f k a0).eval) (v a0) Pt := (DG.ret trivial)
end ref02_clamp
namespace ref02_Add
def v (a0 : Row) (a1 : Row) : Row := (let r0 := (ref02_clamp.v (rInt a0 0)); (let r1 := (ref02_clamp.v (rInt a1 0)); (let r2 := (ref02_clamp.v (iAdd .i64 r0 r1)); (let r3 := (ref02_clamp.v (rInt a0 1)); (let r4 := (ref02_clamp.v (rInt a1 1)); (let r5 := (ref02_clamp.v (iAdd .i64 r3 r4)); (let r6 := (ref02_clamp.v (rInt a0 2)); (let r7 := (ref02_clamp.v (rInt a1 2)); (let r8 := (ref02_clamp.v (iAdd .i64 r6 r7)); [.int .i64 r2, .int .i64 r5, .int .i64 r8])))))))))
theorem val (a0 : Row) (a1 : Row) : DV (fun k => (f k a0 a1).eval) (v a0 a1) Br := (DG.bnd (ref02_clamp.val _) (fun hr0 => (DG.bnd (ref02_clamp.val _) (fun hr1 => (DG.bnd (ref02_clamp.val _) (fun hr2 => (DG.bnd (ref02_clamp.val _) (fun hr3 => (DG.bnd (ref02_clamp.val _) (fun hr4 => (DG.bnd (ref02_clamp.val _) (fun hr5 => (DG.bnd (ref02_clamp.val _) (fun hr6 => (DG.bnd (ref02_clamp.val _) (fun hr7 => (DG.bnd (ref02_clamp.val _) (fun hr8 => (DG.ret (br_cons brc_int (br_cons brc_int (br_cons brc_int br_nil))))))))))))))))))))))
end ref02_Add
namespace ref02_Requests
def p3 (i : Int) (q : Row) (x : Row) : (Row) ⊕ (Row) := (let r0 := (ref02_Add.v (et 47 x) (eo 47 q 2)); (.inl (et 47 r0)))
def z3 (x : Row) : Row := (et 47 x)
def w3 (c0 : Row) (x0 : Row) : Row := walk p3 z3 (rSl c0 4) 0 x0
def v (a0 : Row) : Row := (let r0 := (ref02_Requests.w3 (et 40 a0) [.int .i64 0, .int .i64 0, .int .i64 0]); (et 47 r0))
theorem w3_v (c0 : Row) (c1 : Row) (hc0 : Br c0) (x0 : Row) (h0 : True) : DV (fun k => iter (s3 k c0 c1) k ((fun (x : Row) (i : Int) => (i, x)) x0 0)) (w3 c0 x0) Pt := by
  refine DV.walk (fun (x : Row) (i : Int) => (i, x)) (Br.sl hc0 _).1 p3 z3 (fun (i : Int) (x : Row) => True) Pt (fun i x hp hi hI => ?_) (fun i x hie hi hI => ?_) x0 h0
  · have hlt := lt_of (Br.sl hc0 _).1 hi
    have hle := Int.le_of_lt hlt
    have hin := iIn_lt hp hi
    exact DG.tt hi (DG.tt (iIn_lt hp hi) (DG.bnd (ref02_Add.val _ _) (fun hr0 => (DG.inl rfl trivial))))
  · have hle := eq_le (Br.sl hc0 _).1 hie
    exact DG.ff hi (DG.ex rfl trivial)
theorem val (a0 : Row) (ha0 : Br a0) : DV (fun k => (f k a0).eval) (v a0) Pt := (DG.bnd (ref02_Requests.w3_v _ _ (Br.eta ha0 _) _ trivial) (fun hr0 => (DG.ret trivial)))
end ref02_Requests
namespace ref02_Sub
def v (a0 : Row) (a1 : Row) : Row := (let r0 := (ref02_clamp.v (rInt a0 0)); (let r1 := (ref02_clamp.v (rInt a1 0)); (let r2 := (ref02_clamp.v (iSub .i64 r0 r1)); (let r3 := (ref02_clamp.v (rInt a0 1)); (let r4 := (ref02_clamp.v (rInt a1 1)); (let r5 := (ref02_clamp.v (iSub .i64 r3 r4)); (let r6 := (ref02_clamp.v (rInt a0 2)); (let r7 := (ref02_clamp.v (rInt a1 2)); (let r8 := (ref02_clamp.v (iSub .i64 r6 r7)); [.int .i64 r2, .int .i64 r5, .int .i64 r8])))))))))
theorem val (a0 : Row) (a1 : Row) : DV (fun k => (f k a0 a1).eval) (v a0 a1) Br := (DG.bnd (ref02_clamp.val _) (fun hr0 => (DG.bnd (ref02_clamp.val _) (fun hr1 => (DG.bnd (ref02_clamp.val _) (fun hr2 => (DG.bnd (ref02_clamp.val _) (fun hr3 => (DG.bnd (ref02_clamp.val _) (fun hr4 => (DG.bnd (ref02_clamp.val _) (fun hr5 => (DG.bnd (ref02_clamp.val _) (fun hr6 => (DG.bnd (ref02_clamp.val _) (fun hr7 => (DG.bnd (ref02_clamp.val _) (fun hr8 => (DG.ret (br_cons brc_int (br_cons brc_int (br_cons brc_int br_nil))))))))))))))))))))))
end ref02_Sub
namespace ref38_free
def p3 (c1 : Row) (i : Int) (q : Row) (x : Int × Row) : (Int × Row) ⊕ (Int × Row) := (let r0 := (ref38_Occupies.v (et 45 q) (rStr c1 2)); (bif r0 then (let r1 := (ref02_Requests.v (eo 40 q 13)); (let r2 := (ref02_Add.v (et 47 x.2) (et 47 r1)); (.inl ((iAdd .i64 x.1 1), (et 47 r2))))) else (.inl (x.1, (et 47 x.2)))))
def z3 (x : Int × Row) : Int × Row := (x.1, et 47 x.2)
def w3 (c0 : Rows) (c1 : Row) (x0 : Int × Row) : Int × Row := walk (p3 c1) z3 c0 0 x0
def v (a0 : Rows) (a1 : Row) : (Row × Int) := (let r0 := (ref38_free.w3 a0 (et 51 a1) (0, [.int .i64 0, .int .i64 0, .int .i64 0])); (bif (iLe (rInt a1 16) r0.1) then (let r1 := (ref02_Sub.v (eo 47 a1 13) (et 47 r0.2)); (et 47 r1, 0)) else (let r2 := (ref02_Sub.v (eo 47 a1 13) (et 47 r0.2)); (et 47 r2, iSub .i64 (rInt a1 16) r0.1))))
theorem w3_v (c0 : Rows) (c1 : Row) (c2 : Row) (hc0 : Brs c0) (x0 : Int × Row) (h0 : True ∧ True) : DV (fun k => iter (s3 k c0 c1 c2) k ((fun (x : Int × Row) (i : Int) => (x.1, i, x.2)) x0 0)) (w3 c0 c1 x0) (Pp Pt Pt) := by
  refine DV.walk (fun (x : Int × Row) (i : Int) => (x.1, i, x.2)) hc0.1 (p3 c1) z3 (fun (i : Int) (x : Int × Row) => True ∧ True) (Pp Pt Pt) (fun i x hp hi hI => ?_) (fun i x hie hi hI => ?_) x0 h0
  · have hlt := lt_of hc0.1 hi
    have hle := Int.le_of_lt hlt
    have hin := iIn_lt hp hi
    exact DG.tt hi (DG.tt (iIn_lt hp hi) (DG.bnd (ref38_Occupies.val _ _) (fun hr0 => (DG.test (fun h_2 => (DG.tt (iIn_lt hp hi) (DG.bnd (ref02_Requests.val _ (br_etaL (Brs.at hc0 _) _ _)) (fun hr1 => (DG.bnd (ref02_Add.val _ _) (fun hr2 => (DG.inl rfl ⟨trivial, trivial⟩))))))) (fun h_2 => (DG.inl rfl ⟨trivial, trivial⟩))))))
  · have hle := eq_le hc0.1 hie
    exact DG.ff hi (DG.ex rfl ⟨trivial, trivial⟩)
theorem val (a0 : Rows) (a1 : Row) (ha0 : Brs a0) : DV (fun k => (f k a0 a1).eval) (v a0 a1) (Pp Br Pt) := (DG.bnd (ref38_free.w3_v _ _ _ ha0 _ ⟨trivial, trivial⟩) (fun hr0 => (DG.test (fun h_2 => (DG.bnd (ref02_Sub.val _ _) (fun hr1 => (DG.ret ⟨(Br.eta hr1 _), trivial⟩)))) (fun h_2 => (DG.bnd (ref02_Sub.val _ _) (fun hr2 => (DG.ret ⟨(Br.eta hr2 _), trivial⟩)))))))
end ref38_free
namespace ref38_Free
def p2 (c0 : ByteArray) (c1 : Row) (i : Int) (q : Row) (x : Unit) : (Unit) ⊕ ((Int × Row) ⊕ Unit) := (bif (sEq (rStr q 2) c0) then (let r0 := (ref38_free.v (rSl c1 1) (et 51 q)); (.inr (.inl (r0.2, et 47 r0.1)))) else (.inl ()))
def z2 (x : Unit) : (Int × Row) ⊕ Unit := (.inr ())
def w2 (c0 : ByteArray) (c1 : Row) : (Int × Row) ⊕ Unit := walk (p2 c0 c1) z2 (rSl c1 0) 0 ()
def v (a0 : Row) (a1 : ByteArray) : (Row × Int) := (Sum.elim (fun r0 => (et 47 r0.2, r0.1)) (fun r1 => ([.int .i64 0, .int .i64 0, .int .i64 0], 0)) (ref38_Free.w2 a1 (et 26 a0)))
theorem w2_v (c0 : ByteArray) (c1 : Row) (c2 : Row) (hc1 : Br c1) (x0 : Unit) (h0 : True) : DV (fun k => iter (s2 k c0 c1 c2) k ((fun (x : Unit) (i : Int) => i) x0 0)) (w2 c0 c1) (Ps (Pp Pt Br) Pt) := by
  refine DV.walk (fun (x : Unit) (i : Int) => i) (Br.sl hc1 _).1 (p2 c0 c1) z2 (fun (i : Int) (x : Unit) => True) (Ps (Pp Pt Br) Pt) (fun i x hp hi hI => ?_) (fun i x hie hi hI => ?_) x0 h0
  · have hlt := lt_of (Br.sl hc1 _).1 hi
    have hle := Int.le_of_lt hlt
    have hin := iIn_lt hp hi
    exact DG.tt hi (DG.tt (iIn_lt hp hi) (DG.test (fun h_1 => (DG.tt (iIn_lt hp hi) (DG.bnd (ref38_free.val _ _ (Br.sl hc1 _)) (fun hr0 => (DG.inr rfl ⟨trivial, (Br.eta hr0.1 _)⟩))))) (fun h_1 => (DG.inl rfl trivial))))
  · have hle := eq_le (Br.sl hc1 _).1 hie
    exact DG.ff hi (DG.ex rfl trivial)
theorem val (a0 : Row) (a1 : ByteArray) (ha0 : Br a0) : DV (fun k => (f k a0 a1).eval) (v a0 a1) (Pp Br Pt) := (DG.cas (ref38_Free.w2_v _ _ _ (Br.eta ha0 _) () trivial) (fun r0 hr0 => (DG.ret ⟨(Br.eta hr0.2 _), trivial⟩)) (fun r1 hr1 => (DG.ret ⟨(br_cons brc_int (br_cons brc_int (br_cons brc_int br_nil))), trivial⟩)))
end ref38_Free
namespace ref01_Clamp
def v (a0 : Int) (a1 : Int) (a2 : Int) : Int := (iMin (iMax a0 a1) a2)
theorem val (a0 : Int) (a1 : Int) (a2 : Int) : DV (fun k => (f k a0 a1 a2).eval) (v a0 a1 a2) Pt := (DG.ret trivial)
end ref01_Clamp
theorem clamp_ne (a : Int) : bNot (iEq (ref01_Clamp.v a 1 1000000000000000) 0) = true := by
  have h : 1 ≤ ref01_Clamp.v a 1 1000000000000000 := by
    show 1 ≤ iMin (iMax a 1) 1000000000000000
    unfold iMin iMax
    split <;> (try split) <;> omega
  have : iEq (ref01_Clamp.v a 1 1000000000000000) 0 = false := beq_eq_false_iff_ne.2 (by omega)
  rw [this]; rfl
namespace ref39_share
def v (a0 : Int) (a1 : Int) : Int := (bif (iLe a1 0) then 0 else (let r0 := (ref01_Clamp.v a1 1 1000000000000000); (let r1 := (ref01_Clamp.v (iQuo .i64 (iMul .i64 100 a0) r0) 0 100); r1)))
theorem val (a0 : Int) (a1 : Int) : DV (fun k => (f k a0 a1).eval) (v a0 a1) Pt := (DG.test (fun h_1 => (DG.ret trivial)) (fun h_1 => (DG.bnd (ref01_Clamp.val _ _ _) (fun hr0 => (DG.tt (clamp_ne _) (DG.bnd (ref01_Clamp.val _ _ _) (fun hr1 => (DG.ret trivial))))))))
end ref39_share
namespace ref39_shares
def v (a0 : Row) (a1 : Row) (a2 : Row) : (Int × Int) := (let r0 := (ref38_Free.v (et 26 a0) (rStr a2 2)); (let r1 := (ref02_Requests.v (eo 40 a1 13)); (let r2 := (ref02_Sub.v (et 47 r0.1) (et 47 r1)); (let r3 := (ref39_share.v (rInt r2 0) (rInt a2 13)); (let r4 := (ref39_share.v (rInt r2 1) (rInt a2 14)); (r3, r4))))))
theorem val (a0 : Row) (a1 : Row) (a2 : Row) (ha0 : Br a0) (ha1 : Br a1) : DV (fun k => (f k a0 a1 a2).eval) (v a0 a1 a2) (Pp Pt Pt) := (DG.bnd (ref38_Free.val _ _ (Br.eta ha0 _)) (fun hr0 => (DG.bnd (ref02_Requests.val _ (br_etaL ha1 _ _)) (fun hr1 => (DG.bnd (ref02_Sub.val _ _) (fun hr2 => (DG.bnd (ref39_share.val _ _) (fun hr3 => (DG.bnd (ref39_share.val _ _) (fun hr4 => (DG.ret ⟨trivial, trivial⟩)))))))))))
end ref39_shares
namespace ref39_Spare
def v (a0 : Row) (a1 : Row) (a2 : Row) : Int := (let r0 := (ref39_shares.v (et 26 a0) (et 45 a1) (et 51 a2)); (iQuo .i64 (iAdd .i64 r0.1 r0.2) 2))
theorem val (a0 : Row) (a1 : Row) (a2 : Row) (ha0 : Br a0) (ha1 : Br a1) : DV (fun k => (f k a0 a1 a2).eval) (v a0 a1 a2) Pt := (DG.bnd (ref39_shares.val _ _ _ (Br.eta ha0 _) (Br.eta ha1 _)) (fun hr0 => (DG.tt rfl (DG.ret trivial))))
end ref39_Spare
namespace ref39_Balance
def v (a0 : Row) (a1 : Row) (a2 : Row) : Int := (let r0 := (ref39_shares.v (et 26 a0) (et 45 a1) (et 51 a2)); (bif (iLt r0.2 r0.1) then (iAdd .i64 (iSub .i64 100 r0.1) r0.2) else (iAdd .i64 (iSub .i64 100 r0.2) r0.1)))
theorem val (a0 : Row) (a1 : Row) (a2 : Row) (ha0 : Br a0) (ha1 : Br a1) : DV (fun k => (f k a0 a1 a2).eval) (v a0 a1 a2) Pt := (DG.bnd (ref39_shares.val _ _ _ (Br.eta ha0 _) (Br.eta ha1 _)) (fun hr0 => (DG.test (fun h_2 => (DG.ret trivial)) (fun h_2 => (DG.ret trivial)))))
end ref39_Balance
namespace ref03_Get
def p2 (c1 : ByteArray) (i : Int) (q : Row) (x : Unit) : (Unit) ⊕ ((ByteArray × Bool) ⊕ Unit) := (bif (sEq (rStr q 0) c1) then (.inr (.inl (rStr q 1, true))) else (.inl ()))
def z2 (x : Unit) : (ByteArray × Bool) ⊕ Unit := (.inr ())
def w2 (c0 : Rows) (c1 : ByteArray) : (ByteArray × Bool) ⊕ Unit := walk (p2 c1) z2 c0 0 ()
def v (a0 : Rows) (a1 : ByteArray) : (ByteArray × Bool) := (Sum.elim (fun r0 => (r0.1, r0.2)) (fun r1 => (ByteArray.empty, false)) (ref03_Get.w2 a0 a1))
theorem w2_v (c0 : Rows) (c1 : ByteArray) (hc0 : Brs c0) (x0 : Unit) (h0 : True) : DV (fun k => iter (s2 k c0 c1) k ((fun (x : Unit) (i : Int) => i) x0 0)) (w2 c0 c1) (Ps (Pp (Sz 1048576) Pt) Pt) := by
  refine DV.walk (fun (x : Unit) (i : Int) => i) hc0.1 (p2 c1) z2 (fun (i : Int) (x : Unit) => True) (Ps (Pp (Sz 1048576) Pt) Pt) (fun i x hp hi hI => ?_) (fun i x hie hi hI => ?_) x0 h0
  · have hlt := lt_of hc0.1 hi
    have hle := Int.le_of_lt hlt
    have hin := iIn_lt hp hi
    exact DG.tt hi (DG.tt (iIn_lt hp hi) (DG.test (fun h_1 => (DG.tt (iIn_lt hp hi) (DG.inr rfl ⟨(Br.str (Brs.at hc0 _) _), trivial⟩))) (fun h_1 => (DG.inl rfl trivial))))
  · have hle := eq_le hc0.1 hie
    exact DG.ff hi (DG.ex rfl trivial)
theorem val (a0 : Rows) (a1 : ByteArray) (ha0 : Brs a0) : DV (fun k => (f k a0 a1).eval) (v a0 a1) (Pp (Sz 1048576) Pt) := (DG.cas (ref03_Get.w2_v _ _ ha0 () trivial) (fun r0 hr0 => (DG.ret ⟨hr0.1, trivial⟩)) (fun r1 hr1 => (DG.ret ⟨(Nat.le_trans (@Nat.le_of_ble_eq_true _ 0 rfl) (Nat.le_of_ble_eq_true rfl)), trivial⟩)))
end ref03_Get
namespace ref03_among
def p2 (c1 : ByteArray) (i : Int) (q : Row) (x : Unit) : (Unit) ⊕ (Bool ⊕ Unit) := (bif (sEq (rStr q 0) c1) then (.inr (.inl true)) else (.inl ()))
def z2 (x : Unit) : Bool ⊕ Unit := (.inr ())
def w2 (c0 : Rows) (c1 : ByteArray) : Bool ⊕ Unit := walk (p2 c1) z2 c0 0 ()
def v (a0 : Rows) (a1 : ByteArray) : Bool := (Sum.elim (fun r0 => r0) (fun r1 => false) (ref03_among.w2 a0 a1))
theorem w2_v (c0 : Rows) (c1 : ByteArray) (hc0 : Brs c0) (x0 : Unit) (h0 : True) : DV (fun k => iter (s2 k c0 c1) k ((fun (x : Unit) (i : Int) => i) x0 0)) (w2 c0 c1) (Ps Pt Pt) := by
  refine DV.walk (fun (x : Unit) (i : Int) => i) hc0.1 (p2 c1) z2 (fun (i : Int) (x : Unit) => True) (Ps Pt Pt) (fun i x hp hi hI => ?_) (fun i x hie hi hI => ?_) x0 h0
  · have hlt := lt_of hc0.1 hi
    have hle := Int.le_of_lt hlt
    have hin := iIn_lt hp hi
    exact DG.tt hi (DG.tt (iIn_lt hp hi) (DG.test (fun h_1 => (DG.inr rfl trivial)) (fun h_1 => (DG.inl rfl trivial))))
  · have hle := eq_le hc0.1 hie
    exact DG.ff hi (DG.ex rfl trivial)
theorem val (a0 : Rows) (a1 : ByteArray) (ha0 : Brs a0) : DV (fun k => (f k a0 a1).eval) (v a0 a1) Pt := (DG.cas (ref03_among.w2_v _ _ ha0 () trivial) (fun r0 hr0 => (DG.ret trivial)) (fun r1 hr1 => (DG.ret trivial)))
end ref03_among
namespace ref03_holds
def v (a0 : Row) (a1 : Rows) : Bool := (let r0 := (ref03_Get.v a1 (rStr a0 0)); (bif (iEq (rInt a0 1) 1) then (let r1 := bif r0.2 then (ref03_among.v (rSl a0 2) r0.1) else default; (bIte r0.2 r1 false)) else (bif (iEq (rInt a0 1) 2) then (let r2 := bif (bNot (bNot r0.2)) then (ref03_among.v (rSl a0 2) r0.1) else default; (bIte (bNot r0.2) true (bNot r2))) else (bIte (bIte (iEq (rInt a0 1) 3) r0.2 false) true (bIte (iEq (rInt a0 1) 4) (bNot r0.2) false)))))
theorem val (a0 : Row) (a1 : Rows) (ha0 : Br a0) (ha1 : Brs a1) : DV (fun k => (f k a0 a1).eval) (v a0 a1) Pt := (DG.bnd (ref03_Get.val _ _ ha1) (fun hr0 => (DG.test (fun h_2 => (DG.opt (fun h_3 => (ref03_among.val _ _ (Br.sl ha0 _))) (fun _ => trivial) (fun hr1 => (DG.ret trivial)))) (fun h_2 => (DG.test (fun h_4 => (DG.opt (fun h_5 => (ref03_among.val _ _ (Br.sl ha0 _))) (fun _ => trivial) (fun hr2 => (DG.ret trivial)))) (fun h_4 => (DG.ret trivial)))))))
end ref03_holds
namespace ref03_Matches
def p2 (c1 : Rows) (i : Int) (q : Row) (x : Unit) : (Unit) ⊕ (Bool ⊕ Unit) := (let r0 := (ref03_holds.v (et 129 q) c1); (bif (bNot r0) then (.inr (.inl false)) else (.inl ())))
def z2 (x : Unit) : Bool ⊕ Unit := (.inr ())
def w2 (c0 : Rows) (c1 : Rows) : Bool ⊕ Unit := walk (p2 c1) z2 c0 0 ()
def v (a0 : Rows) (a1 : Rows) : Bool := (Sum.elim (fun r0 => r0) (fun r1 => true) (ref03_Matches.w2 a0 a1))
theorem w2_v (c0 : Rows) (c1 : Rows) (hc0 : Brs c0) (hc1 : Brs c1) (x0 : Unit) (h0 : True) : DV (fun k => iter (s2 k c0 c1) k ((fun (x : Unit) (i : Int) => i) x0 0)) (w2 c0 c1) (Ps Pt Pt) := by
  refine DV.walk (fun (x : Unit) (i : Int) => i) hc0.1 (p2 c1) z2 (fun (i : Int) (x : Unit) => True) (Ps Pt Pt) (fun i x hp hi hI => ?_) (fun i x hie hi hI => ?_) x0 h0
  · have hlt := lt_of hc0.1 hi
    have hle := Int.le_of_lt hlt
    have hin := iIn_lt hp hi
    exact DG.tt hi (DG.tt (iIn_lt hp hi) (DG.bnd (ref03_holds.val _ _ (Br.eta (Brs.at hc0 _) _) hc1) (fun hr0 => (DG.test (fun h_2 => (DG.inr rfl trivial)) (fun h_2 => (DG.inl rfl trivial))))))
  · have hle := eq_le hc0.1 hie
    exact DG.ff hi (DG.ex rfl trivial)
theorem val (a0 : Rows) (a1 : Rows) (ha0 : Brs a0) (ha1 : Brs a1) : DV (fun k => (f k a0 a1).eval) (v a0 a1) Pt := (DG.cas (ref03_Matches.w2_v _ _ ha0 ha1 () trivial) (fun r0 hr0 => (DG.ret trivial)) (fun r1 hr1 => (DG.ret trivial)))
end ref03_Matches
namespace ref36_clamp
def v (a0 : Int) : Int := (bif (iLt a0 (-1000000000000000)) then (-1000000000000000) else (bif (iLt 1000000000000000 a0) then 1000000000000000 else a0))
theorem val (a0 : Int) : DV (fun k => (f k a0).eval) (v a0) Pt := (DG.test (fun h_1 => (DG.ret trivial)) (fun h_1 => (DG.test (fun h_2 => (DG.ret trivial)) (fun h_2 => (DG.ret trivial)))))
end ref36_clamp
namespace ref36_NodeOf
def p2 (c0 : ByteArray) (i : Int) (q : Row) (x : Unit) : (Unit) ⊕ ((Bool × Row) ⊕ Unit) := (bif (sEq (rStr q 2) c0) then (.inr (.inl (true, et 51 q))) else (.inl ()))
def z2 (x : Unit) : (Bool × Row) ⊕ Unit := (.inr ())
def w2 (c0 : ByteArray) (c1 : Row) : (Bool × Row) ⊕ Unit := walk (p2 c0) z2 (rSl c1 0) 0 ()
def v (a0 : Row) (a1 : ByteArray) : (Row × Bool) := (Sum.elim (fun r0 => (et 51 r0.2, r0.1)) (fun r1 => ([.str ByteArray.empty, .str ByteArray.empty, .str ByteArray.empty, .int .i64 0, .int .i64 0, .int .i64 0, .int .i64 0, .bool false, .int .i64 0, .slice 89 [] .open, .slice 91 [] .open, .slice 9 [] .open, .slice 93 [] .open, .int .i64 0, .int .i64 0, .int .i64 0, .int .i64 0, .bool false, .slice 72 [] .open, .bool false, .int .i64 0, .bool false, .bool false, .slice 247 [] .open], false)) (ref36_NodeOf.w2 a1 (et 26 a0)))
theorem w2_v (c0 : ByteArray) (c1 : Row) (c2 : Row) (hc1 : Br c1) (x0 : Unit) (h0 : True) : DV (fun k => iter (s2 k c0 c1 c2) k ((fun (x : Unit) (i : Int) => i) x0 0)) (w2 c0 c1) (Ps (Pp Pt Br) Pt) := by
  refine DV.walk (fun (x : Unit) (i : Int) => i) (Br.sl hc1 _).1 (p2 c0) z2 (fun (i : Int) (x : Unit) => True) (Ps (Pp Pt Br) Pt) (fun i x hp hi hI => ?_) (fun i x hie hi hI => ?_) x0 h0
  · have hlt := lt_of (Br.sl hc1 _).1 hi
    have hle := Int.le_of_lt hlt
    have hin := iIn_lt hp hi
    exact DG.tt hi (DG.tt (iIn_lt hp hi) (DG.test (fun h_1 => (DG.tt (iIn_lt hp hi) (DG.inr rfl ⟨trivial, (Br.eta (Brs.at (Br.sl hc1 _) _) _)⟩))) (fun h_1 => (DG.inl rfl trivial))))
  · have hle := eq_le (Br.sl hc1 _).1 hie
    exact DG.ff hi (DG.ex rfl trivial)
theorem val (a0 : Row) (a1 : ByteArray) (ha0 : Br a0) : DV (fun k => (f k a0 a1).eval) (v a0 a1) (Pp Br Pt) := (DG.cas (ref36_NodeOf.w2_v _ _ _ (Br.eta ha0 _) () trivial) (fun r0 hr0 => (DG.ret ⟨(Br.eta hr0.2 _), trivial⟩)) (fun r1 hr1 => (DG.ret ⟨(br_cons (brc_str (Nat.le_trans (@Nat.le_of_ble_eq_true _ 0 rfl) (Nat.le_of_ble_eq_true rfl))) (br_cons (brc_str (Nat.le_trans (@Nat.le_of_ble_eq_true _ 0 rfl) (Nat.le_of_ble_eq_true rfl))) (br_cons (brc_str (Nat.le_trans (@Nat.le_of_ble_eq_true _ 0 rfl) (Nat.le_of_ble_eq_true rfl))) (br_cons brc_int (br_cons brc_int (br_cons brc_int (br_cons brc_int (br_cons brc_bool (br_cons brc_int (br_cons (brc_slice (brs_of (Nat.le_of_ble_eq_true rfl) all_nil)) (br_cons (brc_slice (brs_of (Nat.le_of_ble_eq_true rfl) all_nil)) (br_cons (brc_slice (brs_of (Nat.le_of_ble_eq_true rfl) all_nil)) (br_cons (brc_slice (brs_of (Nat.le_of_ble_eq_true rfl) all_nil)) (br_cons brc_int (br_cons brc_int (br_cons brc_int (br_cons brc_int (br_cons brc_bool (br_cons (brc_slice (brs_of (Nat.le_of_ble_eq_true rfl) all_nil)) (br_cons brc_bool (br_cons brc_int (br_cons brc_bool (br_cons brc_bool (br_cons (brc_slice (brs_of (Nat.le_of_ble_eq_true rfl) all_nil)) br_nil)))))))))))))))))))))))), trivial⟩)))
end ref36_NodeOf
namespace ref36_Bound
def p3 (c0 : Row) (c1 : Row) (i : Int) (q : Row) (x : Rows) : (Rows) ⊕ (Rows) := (let r0 := (ref36_NodeOf.v (et 26 c0) (rStr q 13)); (let r1 := bif (bIte r0.2 (bIte (iEq (rInt q 23) 0) true (iEq (rInt q 23) 1)) false) then (ref13_KeyOf.v (et 32 q)) else default; (let r2 := bif (bIte r0.2 (bIte (iEq (rInt q 23) 0) true (iEq (rInt q 23) 1)) false) then (ref13_KeyOf.v (et 32 c1)) else default; (bif (bIte (bIte r0.2 (bIte (iEq (rInt q 23) 0) true (iEq (rInt q 23) 1)) false) (bNot (sEq r1 r2)) false) then (.inl (rCat x [et 45 q])) else (.inl x)))))
def z3 (x : Rows) : Rows := x
def w3 (c0 : Row) (c1 : Row) (x0 : Rows) : Rows := walk (p3 c0 c1) z3 (rSl c0 1) 0 x0
def v (a0 : Row) (a1 : Row) : Rows := (let r0 := (ref36_Bound.w3 (et 26 a0) (et 45 a1) []); r0)
theorem w3_v (c0 : Row) (c1 : Row) (hc0 : Br c0) (hc1 : Br c1) (x0 : Rows) (h0 : Grow 0 x0) : DV (fun k => iter (s3 k c0 c1) k ((fun (x : Rows) (i : Int) => (x, i)) x0 0)) (w3 c0 c1 x0) Brs := by
  refine DV.walk (fun (x : Rows) (i : Int) => (x, i)) (Br.sl hc0 _).1 (p3 c0 c1) z3 (fun (i : Int) (x : Rows) => Grow i x) Brs (fun i x hp hi hI => ?_) (fun i x hie hi hI => ?_) x0 h0
  · have hlt := lt_of (Br.sl hc0 _).1 hi
    have hle := Int.le_of_lt hlt
    have hin := iIn_lt hp hi
    exact DG.tt hi (DG.tt (iIn_lt hp hi) (DG.bnd (ref36_NodeOf.val _ _ (Br.eta hc0 _)) (fun hr0 => (DG.opt (fun h_2 => (ref13_KeyOf.val _ (Br.eta (Brs.at (Br.sl hc0 _) _) _))) (fun _ => (Nat.zero_le _)) (fun hr1 => (DG.opt (fun h_3 => (ref13_KeyOf.val _ (Br.eta hc1 _))) (fun _ => (Nat.zero_le _)) (fun hr2 => (DG.test (fun h_4 => (DG.tt (Grow.ok hI hlt (by decide)) (DG.inl rfl (Grow.push hI (Br.eta (Brs.at (Br.sl hc0 _) _) _))))) (fun h_4 => (DG.inl rfl (Grow.same hI)))))))))))
  · have hle := eq_le (Br.sl hc0 _).1 hie
    exact DG.ff hi (DG.ex rfl (Grow.done hI hle))
theorem val (a0 : Row) (a1 : Row) (ha0 : Br a0) (ha1 : Br a1) : DV (fun k => (f k a0 a1).eval) (v a0 a1) Brs := (DG.bnd (ref36_Bound.w3_v _ _ (Br.eta ha0 _) (Br.eta ha1 _) _ Grow.nil) (fun hr0 => (DG.ret hr0)))
end ref36_Bound
namespace ref36_Domain
def v (a0 : Row) (a1 : ByteArray) : (ByteArray × Bool) := (let r0 := (ref03_Get.v (rSl a0 9) a1); (r0.1, r0.2))
theorem val (a0 : Row) (a1 : ByteArray) (ha0 : Br a0) : DV (fun k => (f k a0 a1).eval) (v a0 a1) (Pp (Sz 1048576) Pt) := (DG.bnd (ref03_Get.val _ _ (Br.sl ha0 _)) (fun hr0 => (DG.ret ⟨hr0.1, trivial⟩)))
end ref36_Domain
namespace ref36_together
def v (a0 : Row) (a1 : Row) (a2 : Row) (a3 : ByteArray) : Bool := (let r0 := (ref36_NodeOf.v (et 26 a0) (rStr a1 13)); (let r1 := (ref36_Domain.v (et 51 r0.1) a3); (let r2 := (ref36_Domain.v (et 51 a2) a3); (bIte (bIte r1.2 r2.2 false) (sEq r1.1 r2.1) false))))
theorem val (a0 : Row) (a1 : Row) (a2 : Row) (a3 : ByteArray) (ha0 : Br a0) (ha2 : Br a2) : DV (fun k => (f k a0 a1 a2 a3).eval) (v a0 a1 a2 a3) Pt := (DG.bnd (ref36_NodeOf.val _ _ (Br.eta ha0 _)) (fun hr0 => (DG.bnd (ref36_Domain.val _ _ (Br.eta hr0.1 _)) (fun hr1 => (DG.bnd (ref36_Domain.val _ _ (Br.eta ha2 _)) (fun hr2 => (DG.ret trivial)))))))
end ref36_together
namespace ref36_near
def p3 (c1 : Row) (c2 : Row) (c3 : Row) (c4 : Row) (i : Int) (q : Row) (x : Unit) : (Unit) ⊕ (Bool ⊕ Unit) := (let r0 := bif (sEq (rStr q 1) (rStr c2 1)) then (ref03_Matches.v (rSl c4 2) (rSl q 9)) else default; (let r1 := bif (bIte (sEq (rStr q 1) (rStr c2 1)) r0 false) then (ref36_together.v (et 26 c1) (et 45 q) (et 51 c3) (rStr c4 3)) else default; (bif (bIte (bIte (sEq (rStr q 1) (rStr c2 1)) r0 false) r1 false) then (.inr (.inl true)) else (.inl ()))))
def z3 (x : Unit) : Bool ⊕ Unit := (.inr ())
def w3 (c0 : Rows) (c1 : Row) (c2 : Row) (c3 : Row) (c4 : Row) : Bool ⊕ Unit := walk (p3 c1 c2 c3 c4) z3 c0 0 ()
def v (a0 : Row) (a1 : Row) (a2 : Row) (a3 : Row) : Bool := (let r0 := (ref36_Bound.v (et 26 a0) (et 45 a1)); (Sum.elim (fun r1 => r1) (fun r2 => false) (ref36_near.w3 r0 (et 26 a0) (et 45 a1) (et 51 a2) (et 107 a3))))
theorem w3_v (c0 : Rows) (c1 : Row) (c2 : Row) (c3 : Row) (c4 : Row) (hc0 : Brs c0) (hc1 : Br c1) (hc3 : Br c3) (hc4 : Br c4) (x0 : Unit) (h0 : True) : DV (fun k => iter (s3 k c0 c1 c2 c3 c4) k ((fun (x : Unit) (i : Int) => i) x0 0)) (w3 c0 c1 c2 c3 c4) (Ps Pt Pt) := by
  refine DV.walk (fun (x : Unit) (i : Int) => i) hc0.1 (p3 c1 c2 c3 c4) z3 (fun (i : Int) (x : Unit) => True) (Ps Pt Pt) (fun i x hp hi hI => ?_) (fun i x hie hi hI => ?_) x0 h0
  · have hlt := lt_of hc0.1 hi
    have hle := Int.le_of_lt hlt
    have hin := iIn_lt hp hi
    exact DG.tt hi (DG.tt (iIn_lt hp hi) (DG.tt (bimp_ (iIn_lt hp hi)) (DG.opt (fun h_1 => (ref03_Matches.val _ _ (Br.sl hc4 _) (Br.sl (Brs.at hc0 _) _))) (fun _ => trivial) (fun hr0 => (DG.tt (bimp_ (iIn_lt hp hi)) (DG.opt (fun h_2 => (ref36_together.val _ _ _ _ (Br.eta hc1 _) (Br.eta hc3 _))) (fun _ => trivial) (fun hr1 => (DG.test (fun h_3 => (DG.inr rfl trivial)) (fun h_3 => (DG.inl rfl trivial))))))))))
  · have hle := eq_le hc0.1 hie
    exact DG.ff hi (DG.ex rfl trivial)
theorem val (a0 : Row) (a1 : Row) (a2 : Row) (a3 : Row) (ha0 : Br a0) (ha1 : Br a1) (ha2 : Br a2) (ha3 : Br a3) : DV (fun k => (f k a0 a1 a2 a3).eval) (v a0 a1 a2 a3) Pt := (DG.bnd (ref36_Bound.val _ _ (Br.eta ha0 _) (Br.eta ha1 _)) (fun hr0 => (DG.cas (ref36_near.w3_v _ _ _ _ _ hr0 (Br.eta ha0 _) (Br.eta ha2 _) (Br.eta ha3 _) () trivial) (fun r1 hr1 => (DG.ret trivial)) (fun r2 hr2 => (DG.ret trivial)))))
end ref36_near
namespace ref36_Preference
def p3 (c2 : Row) (i : Int) (q : Row) (x : Int) : (Int) ⊕ (Int) := (let r0 := bif (bNot (rBool q 0)) then (ref03_Matches.v (rSl q 1) (rSl c2 9)) else default; (bif (bIte (bNot (rBool q 0)) r0 false) then (let r1 := (ref36_clamp.v (rInt q 2)); (.inl (iAdd .i64 x r1))) else (.inl x)))
def z3 (x : Int) : Int := x
def w3 (c1 : Row) (c2 : Row) (x0 : Int) : Int := walk (p3 c2) z3 (rSl c1 19) 0 x0
def p9 (c0 : Row) (c1 : Row) (c2 : Row) (i : Int) (q : Row) (x : Int) : (Int) ⊕ (Int) := (let r0 := bif (bNot (rBool q 0)) then (ref36_near.v (et 26 c0) (et 45 c1) (et 51 c2) (et 107 q)) else default; (bif (bIte (rBool q 0) true (bNot r0)) then (.inl x) else (bif (rBool q 1) then (let r1 := (ref36_clamp.v (rInt q 4)); (.inl (iSub .i64 x r1))) else (let r2 := (ref36_clamp.v (rInt q 4)); (.inl (iAdd .i64 x r2))))))
def z9 (x : Int) : Int := x
def w9 (c0 : Row) (c1 : Row) (c2 : Row) (x0 : Int) : Int := walk (p9 c0 c1 c2) z9 (rSl c1 20) 0 x0
def v (a0 : Row) (a1 : Row) (a2 : Row) : Int := (let r0 := (ref36_Preference.w3 (et 45 a1) (et 51 a2) 0); (let r1 := (ref36_Preference.w9 (et 26 a0) (et 45 a1) (et 51 a2) r0); (let r2 := (ref36_clamp.v r1); r2)))
theorem w3_v (c0 : Row) (c1 : Row) (c2 : Row) (hc1 : Br c1) (hc2 : Br c2) (x0 : Int) (h0 : True) : DV (fun k => iter (s3 k c0 c1 c2) k ((fun (x : Int) (i : Int) => (x, i)) x0 0)) (w3 c1 c2 x0) Pt := by
  refine DV.walk (fun (x : Int) (i : Int) => (x, i)) (Br.sl hc1 _).1 (p3 c2) z3 (fun (i : Int) (x : Int) => True) Pt (fun i x hp hi hI => ?_) (fun i x hie hi hI => ?_) x0 h0
  · have hlt := lt_of (Br.sl hc1 _).1 hi
    have hle := Int.le_of_lt hlt
    have hin := iIn_lt hp hi
    exact DG.tt hi (DG.tt (iIn_lt hp hi) (DG.opt (fun h_1 => (ref03_Matches.val _ _ (Br.sl (Brs.at (Br.sl hc1 _) _) _) (Br.sl hc2 _))) (fun _ => trivial) (fun hr0 => (DG.test (fun h_2 => (DG.bnd (ref36_clamp.val _) (fun hr1 => (DG.inl rfl trivial)))) (fun h_2 => (DG.inl rfl trivial))))))
  · have hle := eq_le (Br.sl hc1 _).1 hie
    exact DG.ff hi (DG.ex rfl trivial)
theorem w9_v (c0 : Row) (c1 : Row) (c2 : Row) (hc0 : Br c0) (hc1 : Br c1) (hc2 : Br c2) (x0 : Int) (h0 : True) : DV (fun k => iter (s9 k c0 c1 c2) k ((fun (x : Int) (i : Int) => (x, i)) x0 0)) (w9 c0 c1 c2 x0) Pt := by
  refine DV.walk (fun (x : Int) (i : Int) => (x, i)) (Br.sl hc1 _).1 (p9 c0 c1 c2) z9 (fun (i : Int) (x : Int) => True) Pt (fun i x hp hi hI => ?_) (fun i x hie hi hI => ?_) x0 h0
  · have hlt := lt_of (Br.sl hc1 _).1 hi
    have hle := Int.le_of_lt hlt
    have hin := iIn_lt hp hi
    exact DG.tt hi (DG.tt (iIn_lt hp hi) (DG.opt (fun h_1 => (ref36_near.val _ _ _ _ (Br.eta hc0 _) (Br.eta hc1 _) (Br.eta hc2 _) (Br.eta (Brs.at (Br.sl hc1 _) _) _))) (fun _ => trivial) (fun hr0 => (DG.test (fun h_2 => (DG.inl rfl trivial)) (fun h_2 => (DG.test (fun h_3 => (DG.bnd (ref36_clamp.val _) (fun hr1 => (DG.inl rfl trivial)))) (fun h_3 => (DG.bnd (ref36_clamp.val _) (fun hr2 => (DG.inl rfl trivial))))))))))
  · have hle := eq_le (Br.sl hc1 _).1 hie
    exact DG.ff hi (DG.ex rfl trivial)
theorem val (a0 : Row) (a1 : Row) (a2 : Row) (ha0 : Br a0) (ha1 : Br a1) (ha2 : Br a2) : DV (fun k => (f k a0 a1 a2).eval) (v a0 a1 a2) Pt := (DG.bnd (ref36_Preference.w3_v _ _ _ (Br.eta ha1 _) (Br.eta ha2 _) _ trivial) (fun hr0 => (DG.bnd (ref36_Preference.w9_v _ _ _ (Br.eta ha0 _) (Br.eta ha1 _) (Br.eta ha2 _) _ trivial) (fun hr1 => (DG.bnd (ref36_clamp.val _) (fun hr2 => (DG.ret trivial)))))))
end ref36_Preference
namespace ref35_Tolerates
def v (a0 : Row) (a1 : Row) : Bool := (bIte (bIte (bIte (sEq (rStr a0 0) ByteArray.empty) true (sEq (rStr a0 0) (rStr a1 0))) (bIte (rBool a0 2) true (sEq (rStr a0 1) (rStr a1 1))) false) (bIte (iEq (rInt a0 3) 0) true (iEq (rInt a0 3) (rInt a1 2))) false)
theorem val (a0 : Row) (a1 : Row) : DV (fun k => (f k a0 a1).eval) (v a0 a1) Pt := (DG.ret trivial)
end ref35_Tolerates
namespace ref35_matching
def p3 (c1 : Row) (i : Int) (q : Row) (x : Rows) : (Rows) ⊕ (Rows) := (let r0 := (ref35_Tolerates.v (et 147 q) (et 72 c1)); (bif r0 then (.inl (rCat x [et 147 q])) else (.inl x)))
def z3 (x : Rows) : Rows := x
def w3 (c0 : Rows) (c1 : Row) (x0 : Rows) : Rows := walk (p3 c1) z3 c0 0 x0
def v (a0 : Row) (a1 : Rows) : Rows := (let r0 := (ref35_matching.w3 a1 (et 72 a0) []); r0)
theorem w3_v (c0 : Rows) (c1 : Row) (hc0 : Brs c0) (x0 : Rows) (h0 : Grow 0 x0) : DV (fun k => iter (s3 k c0 c1) k ((fun (x : Rows) (i : Int) => (x, i)) x0 0)) (w3 c0 c1 x0) Brs := by
  refine DV.walk (fun (x : Rows) (i : Int) => (x, i)) hc0.1 (p3 c1) z3 (fun (i : Int) (x : Rows) => Grow i x) Brs (fun i x hp hi hI => ?_) (fun i x hie hi hI => ?_) x0 h0
  · have hlt := lt_of hc0.1 hi
    have hle := Int.le_of_lt hlt
    have hin := iIn_lt hp hi
    exact DG.tt hi (DG.tt (iIn_lt hp hi) (DG.bnd (ref35_Tolerates.val _ _) (fun hr0 => (DG.test (fun h_2 => (DG.tt (iIn_lt hp hi) (DG.tt (Grow.ok hI hlt (by decide)) (DG.inl rfl (Grow.push hI (Br.eta (Brs.at hc0 _) _)))))) (fun h_2 => (DG.inl rfl (Grow.same hI)))))))
  · have hle := eq_le hc0.1 hie
    exact DG.ff hi (DG.ex rfl (Grow.done hI hle))
theorem val (a0 : Row) (a1 : Rows) (ha1 : Brs a1) : DV (fun k => (f k a0 a1).eval) (v a0 a1) Brs := (DG.bnd (ref35_matching.w3_v _ _ ha1 _ Grow.nil) (fun hr0 => (DG.ret hr0)))
end ref35_matching
namespace ref35_Soft
def p3 (c1 : Rows) (i : Int) (q : Row) (x : Int) : (Int) ⊕ (Int) := (let r0 := bif (iEq (rInt q 2) 2) then (ref35_matching.v (et 72 q) c1) else default; (bif (bIte (iEq (rInt q 2) 2) (iEq (rLen r0) 0) false) then (.inl (iAdd .i64 x 1)) else (.inl x)))
def z3 (x : Int) : Int := x
def w3 (c0 : Rows) (c1 : Rows) (x0 : Int) : Int := walk (p3 c1) z3 c0 0 x0
def v (a0 : Rows) (a1 : Rows) : Int := (let r0 := (ref35_Soft.w3 a0 a1 0); r0)
theorem w3_v (c0 : Rows) (c1 : Rows) (hc0 : Brs c0) (hc1 : Brs c1) (x0 : Int) (h0 : True) : DV (fun k => iter (s3 k c0 c1) k ((fun (x : Int) (i : Int) => (x, i)) x0 0)) (w3 c0 c1 x0) Pt := by
  refine DV.walk (fun (x : Int) (i : Int) => (x, i)) hc0.1 (p3 c1) z3 (fun (i : Int) (x : Int) => True) Pt (fun i x hp hi hI => ?_) (fun i x hie hi hI => ?_) x0 h0
  · have hlt := lt_of hc0.1 hi
    have hle := Int.le_of_lt hlt
    have hin := iIn_lt hp hi
    exact DG.tt hi (DG.tt (iIn_lt hp hi) (DG.tt (bimp_ (iIn_lt hp hi)) (DG.opt (fun h_1 => (ref35_matching.val _ _ hc1)) (fun _ => brs_nil) (fun hr0 => (DG.test (fun h_2 => (DG.inl rfl trivial)) (fun h_2 => (DG.inl rfl trivial)))))))
  · have hle := eq_le hc0.1 hie
    exact DG.ff hi (DG.ex rfl trivial)
theorem val (a0 : Rows) (a1 : Rows) (ha0 : Brs a0) (ha1 : Brs a1) : DV (fun k => (f k a0 a1).eval) (v a0 a1) Pt := (DG.bnd (ref35_Soft.w3_v _ _ ha0 ha1 _ trivial) (fun hr0 => (DG.ret trivial)))
end ref35_Soft
namespace ref37_others
def p4 (c0 : ByteArray) (i : Int) (q : Row) (x : Rows) : (Rows) ⊕ (Rows) := (let r0 := (ref13_KeyOf.v (et 32 q)); (bif (bNot (sEq r0 c0)) then (.inl (rCat x [rJ [et 32 q, [.str (rStr q 13), .int .i64 (rInt q 14), .int .i64 (rInt q 15), .int .i64 (rInt q 16), .slice 65 (rSl q 17) .open, .slice 129 (rSl q 18) .open, .slice 103 (rSl q 19) .open, .slice 107 (rSl q 20) .open, .slice 112 (rSl q 21) .open, .slice 147 (rSl q 22) .open, .int .i64 (rInt q 23), .bool (rBool q 24), .int .i64 (rInt q 25), .int .i64 (rInt q 26), .int .i64 (rInt q 27), .slice 218 (rSl q 28) .open, .int .i64 (rInt q 29), .str (rStr q 30), .str (rStr q 31)]]])) else (.inl x)))
def z4 (x : Rows) : Rows := x
def w4 (c0 : ByteArray) (c4 : Row) (x0 : Rows) : Rows := walk (p4 c0) z4 (rSl c4 1) 0 x0
def v (a0 : Row) (a1 : ByteArray) : Row := (let r0 := (ref37_others.w4 a1 (et 26 a0) []); [.slice 51 (rSl a0 0) .open, .slice 45 r0 .open, .slice 86 (rSl a0 2) .open, .int .i64 (rInt a0 3)])
theorem w4_v (c0 : ByteArray) (c1 : Rows) (c2 : Rows) (c3 : Int) (c4 : Row) (c5 : Row) (hc4 : Br c4) (x0 : Rows) (h0 : Grow 0 x0) : DV (fun k => iter (s4 k c0 c1 c2 c3 c4 c5) k ((fun (x : Rows) (i : Int) => (i, x)) x0 0)) (w4 c0 c4 x0) Brs := by
  refine DV.walk (fun (x : Rows) (i : Int) => (i, x)) (Br.sl hc4 _).1 (p4 c0) z4 (fun (i : Int) (x : Rows) => Grow i x) Brs (fun i x hp hi hI => ?_) (fun i x hie hi hI => ?_) x0 h0
  · have hlt := lt_of (Br.sl hc4 _).1 hi
    have hle := Int.le_of_lt hlt
    have hin := iIn_lt hp hi
    exact DG.tt hi (DG.tt (iIn_lt hp hi) (DG.bnd (ref13_KeyOf.val _ (Br.eta (Brs.at (Br.sl hc4 _) _) _)) (fun hr0 => (DG.test (fun h_2 => (DG.tt (iIn_lt hp hi) (DG.tt (Grow.ok hI hlt (by decide)) (DG.inl rfl (Grow.push hI (br_rJ (all_cons (Br.eta (Brs.at (Br.sl hc4 _) _) _) (all_cons (br_cons (brc_str (Br.str (Brs.at (Br.sl hc4 _) _) _)) (br_cons brc_int (br_cons brc_int (br_cons brc_int (br_cons (brc_slice (Br.sl (Brs.at (Br.sl hc4 _) _) _)) (br_cons (brc_slice (Br.sl (Brs.at (Br.sl hc4 _) _) _)) (br_cons (brc_slice (Br.sl (Brs.at (Br.sl hc4 _) _) _)) (br_cons (brc_slice (Br.sl (Brs.at (Br.sl hc4 _) _) _)) (br_cons (brc_slice (Br.sl (Brs.at (Br.sl hc4 _) _) _)) (br_cons (brc_slice (Br.sl (Brs.at (Br.sl hc4 _) _) _)) (br_cons brc_int (br_cons brc_bool (br_cons brc_int (br_cons brc_int (br_cons brc_int (br_cons (brc_slice (Br.sl (Brs.at (Br.sl hc4 _) _) _)) (br_cons brc_int (br_cons (brc_str (Br.str (Brs.at (Br.sl hc4 _) _) _)) (br_cons (brc_str (Br.str (Brs.at (Br.sl hc4 _) _) _)) br_nil))))))))))))))))))) all_nil)))))))) (fun h_2 => (DG.inl rfl (Grow.same hI)))))))
  · have hle := eq_le (Br.sl hc4 _).1 hie
    exact DG.ff hi (DG.ex rfl (Grow.done hI hle))
theorem val (a0 : Row) (a1 : ByteArray) (ha0 : Br a0) : DV (fun k => (f k a0 a1).eval) (v a0 a1) Br := (DG.bnd (ref37_others.w4_v _ _ _ _ _ _ (Br.eta ha0 _) _ Grow.nil) (fun hr0 => (DG.ret (br_cons (brc_slice (Br.sl ha0 _)) (br_cons (brc_slice hr0) (br_cons (brc_slice (Br.sl ha0 _)) (br_cons brc_int br_nil)))))))
end ref37_others
namespace ref10_put
def p4 (c1 : ByteArray) (i : Int) (q : Row) (x : Rows × Bool) : (Rows × Bool) ⊕ (Rows × Bool) := (bif (bIte (bNot x.2) (bOr (sLt c1 (rStr q 0)) (sEq c1 (rStr q 0))) false) then (bif (bNot (sEq (rStr q 0) c1)) then (.inl ((rCat (rCat x.1 [[.str c1]]) [[.str (rStr q 0)]]), true)) else (.inl ((rCat x.1 [[.str c1]]), true))) else (bif (bNot (sEq (rStr q 0) c1)) then (.inl ((rCat x.1 [[.str (rStr q 0)]]), x.2)) else (.inl (x.1, x.2))))
def z4 (x : Rows × Bool) : Rows × Bool := (x.1, x.2)
def w4 (c0 : Rows) (c1 : ByteArray) : Rows × Bool := walk (p4 c1) z4 c0 0 ([], false)
def v (a0 : Rows) (a1 : ByteArray) : Rows := (let r0 := (ref10_put.w4 a0 a1); (bif (bNot r0.2) then (rCat r0.1 [[.str a1]]) else r0.1))
def Gr (i : Int) (x : Rows × Bool) : Prop := Grow (i + (bif x.2 then 1 else 0)) x.1
theorem w4_v (c0 : Rows) (c1 : ByteArray) (h0 : Brs c0) (hc : Sz 1048576 c1) (hn : rLen c0 ≤ 1048575) : DV (fun k => iter (s4 k c0 c1) k ((fun (x : Rows × Bool) (i : Int) => (x.1, x.2, i)) ([], false) 0)) (w4 c0 c1) (Gr (rLen c0)) := by
  refine DV.walk (fun (x : Rows × Bool) (i : Int) => (x.1, x.2, i)) h0.1 (p4 c1) z4 (fun (i : Int) (x : Rows × Bool) => Gr i x) _ (fun i x hp hi hI => ?_) (fun i x hie hi hI => ?_) _ Grow.nil
  · have hin := iIn_lt hp hi
    have hlt := of_decide_eq_true hi
    have hbq : Br [V.str (rStr (rAt c0 i) 0)] := br_cons (Br.str (h0.at i) 0) br_nil
    have hbc : Br [V.str c1] := br_cons hc br_nil
    obtain ⟨y, b⟩ := x
    cases b with
    | false =>
      have hg : Grow i y := ⟨by have := hI.1; show rLen y ≤ i; have e : rLen y ≤ i + 0 := this; omega, hI.2⟩
      have h1 : Grow (i + 1) (rCat y [[.str c1]]) := hg.push hbc
      refine DG.tt hi (DG.tt (bimp_ hin) (DG.test (fun hb => DG.tt (hg.ok (by omega) (by decide)) (DG.tt hin (DG.test (fun hc => DG.tt hin (DG.tt (h1.ok (by omega) (by decide)) (DG.inl rfl ?_))) (fun hc => DG.inl rfl ?_)))) (fun hb => DG.tt hin (DG.test (fun hc => DG.tt hin (DG.tt (hg.ok (by omega) (by decide)) (DG.inl rfl ?_))) (fun hc => DG.inl rfl ?_)))))
      · exact h1.push hbq
      · exact ⟨by have := h1.1; show rLen (rCat y [[.str c1]]) ≤ i + 1 + 1; omega, h1.2⟩
      · have := hg.push hbq; exact ⟨by have := this.1; show rLen (rCat y [[.str (rStr (rAt c0 i) 0)]]) ≤ i + 1 + 0; omega, this.2⟩
      · exact ⟨by have := hg.1; show rLen y ≤ i + 1 + 0; omega, hg.2⟩
    | true =>
      have hg : Grow (i + 1) y := hI
      refine DG.tt hi (DG.tt rfl (DG.ff rfl (DG.tt hin (DG.test (fun hc => DG.tt hin (DG.tt (hg.ok (by omega) (by decide)) (DG.inl rfl ?_))) (fun hc => DG.inl rfl ?_)))))
      · exact hg.push hbq
      · exact hg.same
  · subst hie
    exact DG.ff hi (DG.ex rfl hI)
theorem val2 (a0 : Rows) (a1 : ByteArray) (h0 : Brs a0) (hc : Sz 1048576 a1) (hn : rLen a0 ≤ 1048575) : DV (fun k => (f k a0 a1).eval) (v a0 a1) (Grow (rLen a0 + 1)) := by
  have hb : Br [V.str a1] := br_cons hc br_nil
  unfold v
  dsimp only
  refine DG.bnd (w4_v a0 a1 h0 hc hn) (fun h => ?_)
  generalize w4 a0 a1 = r0 at h ⊢
  obtain ⟨y, b⟩ := r0
  dsimp only
  cases b with
  | false =>
    have hg : Grow (rLen a0) y := ⟨by have := h.1; have e : rLen y ≤ rLen a0 + 0 := this; omega, h.2⟩
    exact DG.tt rfl (DG.tt (hg.ok (by omega) (by decide)) (DG.ret (hg.push hb)))
  | true => exact DG.ff rfl (DG.ret h)
end ref10_put
namespace ref10_Union
def p3 (i : Int) (q : Row) (x : Rows) : Rows ⊕ Rows := .inl (ref10_put.v x (rStr q 0))
def w3 (c0 : Rows) (x0 : Rows) : Rows := walk p3 (fun x => x) c0 0 x0
def v (a0 : Rows) (a1 : Rows) : Rows := w3 a1 (w3 a0 [])
theorem w_v {s : Nat → Rows × Int → T ((Rows × Int) ⊕ Rows)} (c0 : Rows) (n : Int) (x0 : Rows) (h0 : Brs c0) (hn : 0 ≤ n ∧ n + rLen c0 ≤ 1048576) (hx : Grow n x0)
    (hs : ∀ k x, s k x = .test (iLt x.2 (rLen c0)) (.test (iIn x.2 (rLen c0)) (.bnd (ref10_put.f k x.1 (rStr (rAt c0 x.2) 0)).eval default fun r0 => .ret (.inl (r0, (iAdd .i64 x.2 (1))))) .fail) (.ret (.inr x.1))) :
    DV (fun k => iter (s k) k ((fun (x : Rows) (i : Int) => (x, i)) x0 0)) (w3 c0 x0) (Grow (n + rLen c0)) := by
  refine DV.walk (fun (x : Rows) (i : Int) => (x, i)) h0.1 p3 (fun x => x) (fun (i : Int) (x : Rows) => Grow (n + i) x) _ (fun i x hp hi hI => ?_) (fun i x hie hi hI => ?_) x0 ⟨by have := hx.1; omega, hx.2⟩
  · have hin := iIn_lt hp hi
    have hlt := of_decide_eq_true hi
    have hb : Brs x := hI.done (by omega)
    have hl := hI.1
    simp only [hs]
    refine DG.tt hi (DG.tt hin (DG.bnd (ref10_put.val2 _ _ hb (Br.str (h0.at i) 0) (by omega)) (fun h => DG.inl rfl ⟨by have := h.1; omega, h.2⟩)))
  · subst hie
    simp only [hs]
    exact DG.ff hi (DG.ex rfl hI)
theorem val2 (a0 : Rows) (a1 : Rows) (h0 : Brs a0) (h1 : Brs a1) (hn : rLen a0 + rLen a1 ≤ 1048576) : DV (fun k => (f k a0 a1).eval) (v a0 a1) (Grow (rLen a0 + rLen a1)) := by
  have hp0 := rl_pos a0
  have hp1 := rl_pos a1
  refine DG.bnd (w_v a0 0 [] h0 (by omega) Grow.nil (fun k x => rfl)) (fun h => ?_)
  refine DG.bnd (w_v a1 (rLen a0) _ h1 (by omega) ⟨by have := h.1; omega, h.2⟩ (fun k x => rfl)) (fun h2 => DG.ret h2)
end ref10_Union
namespace ref37_domain
def p2 (c0 : ByteArray) (c1 : ByteArray) (i : Int) (q : Row) (x : Unit) : (Unit) ⊕ ((ByteArray × Bool) ⊕ Unit) := (bif (sEq (rStr q 2) c0) then (let r0 := (ref36_Domain.v (et 51 q) c1); (.inr (.inl (r0.1, r0.2)))) else (.inl ()))
def z2 (x : Unit) : (ByteArray × Bool) ⊕ Unit := (.inr ())
def w2 (c0 : ByteArray) (c1 : ByteArray) (c2 : Row) : (ByteArray × Bool) ⊕ Unit := walk (p2 c0 c1) z2 (rSl c2 0) 0 ()
def v (a0 : Row) (a1 : ByteArray) (a2 : ByteArray) : (ByteArray × Bool) := (Sum.elim (fun r0 => (r0.1, r0.2)) (fun r1 => (ByteArray.empty, false)) (ref37_domain.w2 a1 a2 (et 26 a0)))
theorem w2_v (c0 : ByteArray) (c1 : ByteArray) (c2 : Row) (hc2 : Br c2) (x0 : Unit) (h0 : True) : DV (fun k => iter (s2 k c0 c1 c2) k ((fun (x : Unit) (i : Int) => i) x0 0)) (w2 c0 c1 c2) (Ps (Pp (Sz 1048576) Pt) Pt) := by
  refine DV.walk (fun (x : Unit) (i : Int) => i) (Br.sl hc2 _).1 (p2 c0 c1) z2 (fun (i : Int) (x : Unit) => True) (Ps (Pp (Sz 1048576) Pt) Pt) (fun i x hp hi hI => ?_) (fun i x hie hi hI => ?_) x0 h0
  · have hlt := lt_of (Br.sl hc2 _).1 hi
    have hle := Int.le_of_lt hlt
    have hin := iIn_lt hp hi
    exact DG.tt hi (DG.tt (iIn_lt hp hi) (DG.test (fun h_1 => (DG.tt (iIn_lt hp hi) (DG.bnd (ref36_Domain.val _ _ (Br.eta (Brs.at (Br.sl hc2 _) _) _)) (fun hr0 => (DG.inr rfl ⟨hr0.1, trivial⟩))))) (fun h_1 => (DG.inl rfl trivial))))
  · have hle := eq_le (Br.sl hc2 _).1 hie
    exact DG.ff hi (DG.ex rfl trivial)
theorem val (a0 : Row) (a1 : ByteArray) (a2 : ByteArray) (ha0 : Br a0) : DV (fun k => (f k a0 a1 a2).eval) (v a0 a1 a2) (Pp (Sz 1048576) Pt) := (DG.cas (ref37_domain.w2_v _ _ _ (Br.eta ha0 _) () trivial) (fun r0 hr0 => (DG.ret ⟨hr0.1, trivial⟩)) (fun r1 hr1 => (DG.ret ⟨(Nat.le_trans (@Nat.le_of_ble_eq_true _ 0 rfl) (Nat.le_of_ble_eq_true rfl)), trivial⟩)))
end ref37_domain
namespace ref33_Active
def v (a0 : Row) : Bool := (bIte (bIte (iEq (rInt a0 23) 0) true (iEq (rInt a0 23) 1)) (bNot (rBool a0 7)) false)
theorem val (a0 : Row) : DV (fun k => (f k a0).eval) (v a0) Pt := (DG.ret trivial)
end ref33_Active
namespace ref37_Counts
def p3 (t : ByteArray) (i : Int) (q : Row) (x : Rows) : Rows ⊕ Rows :=
  let r0 := ref36_Domain.v (et 51 q) t
  .inl (bif r0.2 then ref10_Union.v x [[.str r0.1]] else x)
def w3 (t : ByteArray) (ns : Rows) : Rows := walk (p3 t) (fun x => x) ns 0 []
def okQ (ns : ByteArray) (d : ByteArray) (vw ru : Row) (q : Row) : Bool :=
  let r0 := ref37_domain.v (et 26 vw) (rStr q 13) (rStr ru 1)
  bIte (bIte (bIte (bIte r0.2 (sEq r0.1 d) false) (ref33_Active.v (et 45 q)) false) (sEq (rStr q 1) ns) false) (ref03_Matches.v (rSl ru 2) (rSl q 9)) false
def p14 (c0 : ByteArray) (d : ByteArray) (c4 c5 : Row) (i : Int) (q : Row) (x : Row) : Row ⊕ Row :=
  bif okQ c0 d c4 c5 q then .inl [.str (rStr x 0), .int .i64 (iAdd .i64 (rInt x 1) 1)] else .inl (et 117 x)
def z14 (x : Row) : Row := et 117 x
def w14 (c0 : ByteArray) (d : ByteArray) (c4 c5 : Row) (x0 : Row) : Row := walk (p14 c0 d c4 c5) z14 (rSl c4 1) 0 x0
def p10 (c0 : ByteArray) (c2 c3 : Row) (i : Int) (q : Row) (x : Rows) : Rows ⊕ Rows :=
  .inl (rCat x [et 117 (w14 c0 (rStr q 0) (et 26 c2) (et 112 c3) [.str (rStr q 0), .int .i64 (0)])])
def w10 (c0 : ByteArray) (c1 : Rows) (c2 c3 : Row) : Rows := walk (p10 c0 c2 c3) (fun x => x) c1 0 []
def nm (a0 : Row) (a2 : Row) : Rows := w3 (rStr a2 1) (rSl a0 0)
def v (a0 : Row) (a1 : ByteArray) (a2 : Row) : Rows := w10 a1 (nm a0 a2) (et 26 a0) (et 112 a2)
theorem w3_v (c0 : ByteArray) (c1 c2 : Row) (h1 : Br c1) (h2 : Br c2) : DV (fun k => iter (s3 k c0 c1 c2) k ((fun (x : Rows) (i : Int) => (x, i)) [] 0)) (w3 (rStr c2 1) (rSl c1 0)) (Grow (rLen (rSl c1 0))) := by
  refine DV.walk (fun (x : Rows) (i : Int) => (x, i)) (h1.sl 0).1 (p3 (rStr c2 1)) (fun x => x) (fun (i : Int) (x : Rows) => Grow i x) _ (fun i x hp hi hI => ?_) (fun i x hie hi hI => ?_) [] Grow.nil
  · have hin := iIn_lt hp hi
    have hlt := of_decide_eq_true hi
    have hle : rLen (rSl c1 0) ≤ 1048576 := rl_le (h1.sl 0)
    have hq := (h1.sl 0).at i
    have hv := ref36_Domain.val (et 51 (rAt (rSl c1 0) i)) (rStr c2 1) (Br.eta hq _)
    refine DG.tt hi (DG.tt hin (DG.bnd hv (fun hd => ?_)))
    unfold p3
    dsimp only
    have hs := hv.post.1
    generalize ref36_Domain.v (et 51 (rAt (rSl c1 0) i)) (rStr c2 1) = r0 at hs ⊢
    obtain ⟨d, b⟩ := r0
    cases b with
    | true =>
      have hl : rLen ([[.str d]] : Rows) = 1 := rfl
      refine DG.tt rfl (DG.bnd (ref10_Union.val2 x [[.str d]] (hI.done (by omega)) (brs_of (Nat.le_of_ble_eq_true rfl) (all_cons (br_cons hs br_nil) all_nil)) (by have := hI.1; omega)) (fun h => DG.inl rfl ⟨?_, h.2⟩))
      have := h.1
      have := hI.1
      show rLen (ref10_Union.v x [[.str d]]) ≤ i + 1
      omega
    | false => exact DG.ff rfl (DG.inl rfl hI.same)
  · subst hie
    exact DG.ff hi (DG.ex rfl hI)
theorem w14_v (c0 : ByteArray) (c1 c2 : Rows) (c3 : Int) (c4 c5 : Row) (x0 : Row) (h4 : Br c4) (h5 : Br c5) (h3 : iIn c3 (rLen c1) = true) (hx : Br x0) : DV (fun k => iter (s14 k c0 c1 c2 c3 c4 c5) k ((fun (x : Row) (i : Int) => (i, x)) x0 0)) (w14 c0 (rStr (rAt c1 c3) 0) c4 c5 x0) Br := by
  refine DV.walk (fun (x : Row) (i : Int) => (i, x)) (h4.sl 1).1 (p14 c0 (rStr (rAt c1 c3) 0) c4 c5) z14 (fun (i : Int) (x : Row) => Br x) _ (fun i x hp hi hI => ?_) (fun i x hie hi hI => ?_) x0 hx
  · have hin := iIn_lt hp hi
    have hq := (h4.sl 1).at i
    refine DG.tt hi (DG.tt hin (DG.bnd (ref37_domain.val _ _ _ (Br.eta h4 _)) (fun hd => ?_)))
    refine DG.tt (bimp_ h3) ?_
    refine DG.opt (fun _ => ref33_Active.val _) (fun _ => trivial) (fun _ => ?_)
    refine DG.opt (fun _ => ref03_Matches.val _ _ (h5.sl 2) (hq.sl 9)) (fun _ => trivial) (fun _ => ?_)
    have hok : ∀ (a z b c d : Bool), bIte (bIte (bIte (bIte a z false) (bif (bIte a z false) then b else default) false) c false) (bif (bIte (bIte (bIte a z false) (bif (bIte a z false) then b else default) false) c false) then d else default) false = bIte (bIte (bIte (bIte a z false) b false) c false) d false := by
      intro a z b c d; cases a <;> cases z <;> cases b <;> cases c <;> rfl
    rw [hok]
    refine DG.test (fun hb => DG.inl rfl (br_cons (Br.str hI 0) (br_cons brc_int br_nil))) (fun hb => DG.inl rfl (Br.eta hI _))
  · subst hie
    exact DG.ff hi (DG.ex rfl (Br.eta hI _))
theorem w10_v (c0 : ByteArray) (c1 : Rows) (c2 c3 : Row) (h1 : Brs c1) (h2 : Br c2) (h3 : Br c3) : DV (fun k => iter (s10 k c0 c1 c2 c3) k ((fun (x : Rows) (i : Int) => (x, i)) [] 0)) (w10 c0 c1 c2 c3) Brs := by
  refine DV.walk (fun (x : Rows) (i : Int) => (x, i)) h1.1 (p10 c0 c2 c3) (fun x => x) (fun (i : Int) (x : Rows) => Grow i x) _ (fun i x hp hi hI => ?_) (fun i x hie hi hI => ?_) [] Grow.nil
  · have hin := iIn_lt hp hi
    have hlt := of_decide_eq_true hi
    have hle : rLen c1 ≤ 1048576 := rl_le h1
    have hb : Br [V.str (rStr (rAt c1 i) 0), V.int .i64 (0)] := br_cons (Br.str (h1.at i) 0) (br_cons brc_int br_nil)
    exact DG.tt hi (DG.tt hin (DG.bnd (w14_v c0 c1 x i _ _ _ (Br.eta h2 _) (Br.eta h3 _) hin hb) (fun h => DG.tt (hI.ok (by omega) (by decide)) (DG.inl rfl (hI.push (Br.eta h _))))))
  · subst hie
    exact DG.ff hi (DG.ex rfl (hI.done (rl_le h1)))
theorem val (a0 : Row) (a1 : ByteArray) (a2 : Row) (ha0 : Br a0) (ha1 : Sz 1048576 a1) (ha2 : Br a2) : DV (fun k => (f k a0 a1 a2).eval) (v a0 a1 a2) Brs := by
  have hle : rLen (rSl a0 0) ≤ 1048576 := rl_le (ha0.sl 0)
  refine DG.bnd (w3_v a1 (et 26 a0) (et 112 a2) (Br.eta ha0 _) (Br.eta ha2 _)) (fun h => ?_)
  refine DG.bnd (w10_v a1 _ (et 26 a0) (et 112 a2) (h.done hle) (Br.eta ha0 _) (Br.eta ha2 _)) (fun h2 => DG.ret h2)
end ref37_Counts
namespace ref37_of
def p3 (c1 : ByteArray) (i : Int) (q : Row) (x : Int × Int × Bool) : (Int × Int × Bool) ⊕ (Int × Int × Bool) := (bif (bIte (iEq i 0) true (iLt (rInt q 1) x.2.1)) then (bif (sEq (rStr q 0) c1) then (.inl ((rInt q 1), (rInt q 1), true)) else (.inl (x.1, (rInt q 1), x.2.2))) else (bif (sEq (rStr q 0) c1) then (.inl ((rInt q 1), x.2.1, true)) else (.inl (x.1, x.2.1, x.2.2))))
def z3 (x : Int × Int × Bool) : Int × Int × Bool := (x.1, x.2.1, x.2.2)
def w3 (c0 : Rows) (c1 : ByteArray) (x0 : Int × Int × Bool) : Int × Int × Bool := walk (p3 c1) z3 c0 0 x0
def v (a0 : Rows) (a1 : ByteArray) : (Int × Int × Bool) := (let r0 := (ref37_of.w3 a0 a1 (0, 0, false)); (r0.1, r0.2.1, r0.2.2))
theorem w3_v (c0 : Rows) (c1 : ByteArray) (hc0 : Brs c0) (x0 : Int × Int × Bool) (h0 : True ∧ True ∧ True) : DV (fun k => iter (s3 k c0 c1) k ((fun (x : Int × Int × Bool) (i : Int) => (x.1, x.2.1, x.2.2, i)) x0 0)) (w3 c0 c1 x0) (Pp Pt (Pp Pt Pt)) := by
  refine DV.walk (fun (x : Int × Int × Bool) (i : Int) => (x.1, x.2.1, x.2.2, i)) hc0.1 (p3 c1) z3 (fun (i : Int) (x : Int × Int × Bool) => True ∧ True ∧ True) (Pp Pt (Pp Pt Pt)) (fun i x hp hi hI => ?_) (fun i x hie hi hI => ?_) x0 h0
  · have hlt := lt_of hc0.1 hi
    have hle := Int.le_of_lt hlt
    have hin := iIn_lt hp hi
    exact DG.tt hi (DG.tt (bimp_ (iIn_lt hp hi)) (DG.test (fun h_1 => (DG.tt (iIn_lt hp hi) (DG.tt (iIn_lt hp hi) (DG.test (fun h_2 => (DG.tt (iIn_lt hp hi) (DG.inl rfl ⟨trivial, ⟨trivial, trivial⟩⟩))) (fun h_2 => (DG.inl rfl ⟨trivial, ⟨trivial, trivial⟩⟩)))))) (fun h_1 => (DG.tt (iIn_lt hp hi) (DG.test (fun h_3 => (DG.tt (iIn_lt hp hi) (DG.inl rfl ⟨trivial, ⟨trivial, trivial⟩⟩))) (fun h_3 => (DG.inl rfl ⟨trivial, ⟨trivial, trivial⟩⟩)))))))
  · have hle := eq_le hc0.1 hie
    exact DG.ff hi (DG.ex rfl ⟨trivial, ⟨trivial, trivial⟩⟩)
theorem val (a0 : Rows) (a1 : ByteArray) (ha0 : Brs a0) : DV (fun k => (f k a0 a1).eval) (v a0 a1) (Pp Pt (Pp Pt Pt)) := (DG.bnd (ref37_of.w3_v _ _ ha0 _ ⟨trivial, ⟨trivial, trivial⟩⟩) (fun hr0 => (DG.ret ⟨trivial, ⟨trivial, trivial⟩⟩)))
end ref37_of
namespace ref37_Score
def p4 (c0 : Row) (c1 : Row) (c2 : Row) (i : Int) (q : Row) (x : Int) : (Int) ⊕ (Int) := (bif (rBool q 3) then (.inl x) else (let r0 := (ref36_Domain.v (et 51 c1) (rStr q 1)); (bif r0.2 then (let r1 := (ref37_Counts.v (et 26 c2) (rStr c0 1) (et 112 q)); (let r2 := (ref37_of.v r1 r0.1); (.inl (iAdd .i64 x r2.1)))) else (.inl (iAdd .i64 x 40)))))
def z4 (x : Int) : Int := x
def w4 (c0 : Row) (c1 : Row) (c2 : Row) (x0 : Int) : Int := walk (p4 c0 c1 c2) z4 (rSl c0 21) 0 x0
def v (a0 : Row) (a1 : Row) (a2 : Row) : Int := (let r0 := (ref13_KeyOf.v (et 32 a1)); (let r1 := (ref37_others.v (et 26 a0) r0); (let r2 := (ref37_Score.w4 (et 45 a1) (et 51 a2) (et 26 r1) 0); r2)))
theorem w4_v (c0 : Row) (c1 : Row) (c2 : Row) (hc0 : Br c0) (hc1 : Br c1) (hc2 : Br c2) (x0 : Int) (h0 : True) : DV (fun k => iter (s4 k c0 c1 c2) k ((fun (x : Int) (i : Int) => (x, i)) x0 0)) (w4 c0 c1 c2 x0) Pt := by
  refine DV.walk (fun (x : Int) (i : Int) => (x, i)) (Br.sl hc0 _).1 (p4 c0 c1 c2) z4 (fun (i : Int) (x : Int) => True) Pt (fun i x hp hi hI => ?_) (fun i x hie hi hI => ?_) x0 h0
  · have hlt := lt_of (Br.sl hc0 _).1 hi
    have hle := Int.le_of_lt hlt
    have hin := iIn_lt hp hi
    exact DG.tt hi (DG.tt (iIn_lt hp hi) (DG.test (fun h_1 => (DG.inl rfl trivial)) (fun h_1 => (DG.bnd (ref36_Domain.val _ _ (Br.eta hc1 _)) (fun hr0 => (DG.test (fun h_3 => (DG.bnd (ref37_Counts.val _ _ _ (Br.eta hc2 _) (Br.str hc0 _) (Br.eta (Brs.at (Br.sl hc0 _) _) _)) (fun hr1 => (DG.bnd (ref37_of.val _ _ hr1) (fun hr2 => (DG.inl rfl trivial)))))) (fun h_3 => (DG.inl rfl trivial))))))))
  · have hle := eq_le (Br.sl hc0 _).1 hie
    exact DG.ff hi (DG.ex rfl trivial)
theorem val (a0 : Row) (a1 : Row) (a2 : Row) (ha0 : Br a0) (ha1 : Br a1) (ha2 : Br a2) : DV (fun k => (f k a0 a1 a2).eval) (v a0 a1 a2) Pt := (DG.bnd (ref13_KeyOf.val _ (Br.eta ha1 _)) (fun hr0 => (DG.bnd (ref37_others.val _ _ (Br.eta ha0 _)) (fun hr1 => (DG.bnd (ref37_Score.w4_v _ _ _ (Br.eta ha1 _) (Br.eta ha2 _) (Br.eta hr1 _) _ trivial) (fun hr2 => (DG.ret trivial)))))))
end ref37_Score
namespace ref39_Total
def v (a0 : Row) (a1 : Row) (a2 : Row) : Int := (let r0 := (ref36_Preference.v (et 26 a0) (et 45 a1) (et 51 a2)); (let r1 := (ref01_Clamp.v r0 (-100) 100); (let r2 := (ref39_Spare.v (et 26 a0) (et 45 a1) (et 51 a2)); (let r3 := (ref39_Balance.v (et 26 a0) (et 45 a1) (et 51 a2)); (let r4 := (ref35_Soft.v (rSl a2 18) (rSl a1 22)); (let r5 := (ref37_Score.v (et 26 a0) (et 45 a1) (et 51 a2)); (iSub .i64 (iSub .i64 (iAdd .i64 (iAdd .i64 r2 r3) r1) (iMul .i64 10 r4)) (iMul .i64 5 r5))))))))
theorem val (a0 : Row) (a1 : Row) (a2 : Row) (ha0 : Br a0) (ha1 : Br a1) (ha2 : Br a2) : DV (fun k => (f k a0 a1 a2).eval) (v a0 a1 a2) Pt := (DG.bnd (ref36_Preference.val _ _ _ (Br.eta ha0 _) (Br.eta ha1 _) (Br.eta ha2 _)) (fun hr0 => (DG.bnd (ref01_Clamp.val _ _ _) (fun hr1 => (DG.bnd (ref39_Spare.val _ _ _ (Br.eta ha0 _) (Br.eta ha1 _)) (fun hr2 => (DG.bnd (ref39_Balance.val _ _ _ (Br.eta ha0 _) (Br.eta ha1 _)) (fun hr3 => (DG.bnd (ref35_Soft.val _ _ (Br.sl ha2 _) (Br.sl ha1 _)) (fun hr4 => (DG.bnd (ref37_Score.val _ _ _ (Br.eta ha0 _) (Br.eta ha1 _) (Br.eta ha2 _)) (fun hr5 => (DG.ret trivial)))))))))))))
end ref39_Total
namespace law39_ScoreSays
def v (a0 : Row) (a1 : Row) (a2 : Row) : Bool := (let r0 := (law39_small.v (et 26 a0) (et 45 a1) []); (let r1 := bif (bNot (bNot r0)) then (law36_SmallNode.v (et 51 a2)) else default; (let r2 := bif (bNot (bIte (bNot r0) true (bNot r1))) then (law36_Distinct.v (rSl a0 1)) else default; (bif (bIte (bIte (bNot r0) true (bNot r1)) true (bNot r2)) then (let r3 := (law39_lives.v ); r3) else (let r4 := (score_Spare.v (et 26 a0) (et 45 a1) (et 51 a2)); (let r5 := (ref39_Spare.v (et 26 a0) (et 45 a1) (et 51 a2)); (let r6 := bif (iEq r4 r5) then (score_Balance.v (et 26 a0) (et 45 a1) (et 51 a2)) else default; (let r7 := bif (iEq r4 r5) then (ref39_Balance.v (et 26 a0) (et 45 a1) (et 51 a2)) else default; (let r8 := bif (bIte (iEq r4 r5) (iEq r6 r7) false) then (score_Total.v (et 26 a0) (et 45 a1) (et 51 a2)) else default; (let r9 := bif (bIte (iEq r4 r5) (iEq r6 r7) false) then (ref39_Total.v (et 26 a0) (et 45 a1) (et 51 a2)) else default; (let r10 := bif (bIte (bIte (iEq r4 r5) (iEq r6 r7) false) (iEq r8 r9) false) then (law39_lives.v ) else default; (bIte (bIte (bIte (iEq r4 r5) (iEq r6 r7) false) (iEq r8 r9) false) r10 false))))))))))))
theorem val (a0 : Row) (a1 : Row) (a2 : Row) (ha0 : Br a0) (ha1 : Br a1) (ha2 : Br a2) : DV (fun k => (f k a0 a1 a2).eval) (v a0 a1 a2) Pt := (DG.bnd (law39_small.val _ _ _ (Br.eta ha0 _) (Br.eta ha1 _) (brs_of (Nat.le_of_ble_eq_true rfl) all_nil)) (fun hr0 => (DG.opt (fun h_2 => (law36_SmallNode.val _ (Br.eta ha2 _))) (fun _ => trivial) (fun hr1 => (DG.opt (fun h_3 => (law36_Distinct.val _ (Br.sl ha0 _))) (fun _ => trivial) (fun hr2 => (DG.test (fun h_4 => (DG.bnd (law39_lives.val ) (fun hr3 => (DG.ret trivial)))) (fun h_4 => (DG.bnd (score_Spare.val _ _ _ (Br.eta ha0 _) (Br.eta ha1 _)) (fun hr4 => (DG.bnd (ref39_Spare.val _ _ _ (Br.eta ha0 _) (Br.eta ha1 _)) (fun hr5 => (DG.opt (fun h_8 => (score_Balance.val _ _ _ (Br.eta ha0 _) (Br.eta ha1 _))) (fun _ => trivial) (fun hr6 => (DG.opt (fun h_9 => (ref39_Balance.val _ _ _ (Br.eta ha0 _) (Br.eta ha1 _))) (fun _ => trivial) (fun hr7 => (DG.opt (fun h_10 => (score_Total.val _ _ _ (Br.eta ha0 _) (Br.eta ha1 _) (Br.eta ha2 _))) (fun _ => trivial) (fun hr8 => (DG.opt (fun h_11 => (ref39_Total.val _ _ _ (Br.eta ha0 _) (Br.eta ha1 _) (Br.eta ha2 _))) (fun _ => trivial) (fun hr9 => (DG.opt (fun h_12 => (law39_lives.val )) (fun _ => trivial) (fun hr10 => (DG.ret trivial)))))))))))))))))))))))
end law39_ScoreSays
namespace ref39_Best
def p5 (c1 : Row) (c2 : Row) (i : Int) (q : Row) (x : ByteArray × Int × Bool) : (ByteArray × Int × Bool) ⊕ (ByteArray × Bool) := (let r0 := (ref36_NodeOf.v (et 26 c1) (rStr q 0)); (bif (bNot r0.2) then (.inl (x.1, x.2.1, x.2.2)) else (let r1 := (ref39_Total.v (et 26 c1) (et 45 c2) (et 51 r0.1)); (bif (bIte (bIte (bNot x.2.2) true (iLt x.2.1 r1)) true (bIte (iEq r1 x.2.1) (sLt (rStr q 0) x.1) false)) then (.inl ((rStr q 0), r1, true)) else (.inl (x.1, x.2.1, true))))))
def z5 (x : ByteArray × Int × Bool) : ByteArray × Bool := (x.1, x.2.2)
def w5 (c0 : Rows) (c1 : Row) (c2 : Row) (x0 : ByteArray × Int × Bool) : ByteArray × Bool := walk (p5 c1 c2) z5 c0 0 x0
def v (a0 : Row) (a1 : Row) (a2 : Rows) : (ByteArray × Bool) := (let r0 := (ref39_Best.w5 a2 (et 26 a0) (et 45 a1) (ByteArray.empty, 0, false)); (r0.1, r0.2))
theorem w5_v (c0 : Rows) (c1 : Row) (c2 : Row) (hc0 : Brs c0) (hc1 : Br c1) (hc2 : Br c2) (x0 : ByteArray × Int × Bool) (h0 : Sz 1048576 x0.1 ∧ True ∧ True) : DV (fun k => iter (s5 k c0 c1 c2) k ((fun (x : ByteArray × Int × Bool) (i : Int) => (x.1, x.2.1, x.2.2, i)) x0 0)) (w5 c0 c1 c2 x0) (Pp (Sz 1048576) Pt) := by
  refine DV.walk (fun (x : ByteArray × Int × Bool) (i : Int) => (x.1, x.2.1, x.2.2, i)) hc0.1 (p5 c1 c2) z5 (fun (i : Int) (x : ByteArray × Int × Bool) => Sz 1048576 x.1 ∧ True ∧ True) (Pp (Sz 1048576) Pt) (fun i x hp hi hI => ?_) (fun i x hie hi hI => ?_) x0 h0
  · have hlt := lt_of hc0.1 hi
    have hle := Int.le_of_lt hlt
    have hin := iIn_lt hp hi
    exact DG.tt hi (DG.tt (iIn_lt hp hi) (DG.bnd (ref36_NodeOf.val _ _ (Br.eta hc1 _)) (fun hr0 => (DG.test (fun h_2 => (DG.inl rfl ⟨hI.1, ⟨trivial, trivial⟩⟩)) (fun h_2 => (DG.bnd (ref39_Total.val _ _ _ (Br.eta hc1 _) (Br.eta hc2 _) (Br.eta hr0.1 _)) (fun hr1 => (DG.tt (bimp_ (iIn_lt hp hi)) (DG.test (fun h_4 => (DG.tt (iIn_lt hp hi) (DG.inl rfl ⟨(Br.str (Brs.at hc0 _) _), ⟨trivial, trivial⟩⟩))) (fun h_4 => (DG.inl rfl ⟨hI.1, ⟨trivial, trivial⟩⟩)))))))))))
  · have hle := eq_le hc0.1 hie
    exact DG.ff hi (DG.ex rfl ⟨hI.1, trivial⟩)
theorem val (a0 : Row) (a1 : Row) (a2 : Rows) (ha0 : Br a0) (ha1 : Br a1) (ha2 : Brs a2) : DV (fun k => (f k a0 a1 a2).eval) (v a0 a1 a2) (Pp (Sz 1048576) Pt) := (DG.bnd (ref39_Best.w5_v _ _ _ ha2 (Br.eta ha0 _) (Br.eta ha1 _) _ ⟨(Nat.le_trans (@Nat.le_of_ble_eq_true _ 0 rfl) (Nat.le_of_ble_eq_true rfl)), ⟨trivial, trivial⟩⟩) (fun hr0 => (DG.ret ⟨hr0.1, trivial⟩)))
end ref39_Best
namespace law39_ScorePicks
def v (a0 : Row) (a1 : Row) (a2 : Rows) : Bool := (let r0 := (law39_small.v (et 26 a0) (et 45 a1) a2); (let r1 := bif (bNot (bNot r0)) then (law36_Distinct.v (rSl a0 1)) else default; (bif (bIte (bNot r0) true (bNot r1)) then (let r2 := (law39_lives.v ); r2) else (let r3 := (score_Best.v (et 26 a0) (et 45 a1) a2); (let r4 := (ref39_Best.v (et 26 a0) (et 45 a1) a2); (let r5 := bif (bIte (sEq r3.1 r4.1) (bEq r3.2 r4.2) false) then (law39_lives.v ) else default; (bIte (bIte (sEq r3.1 r4.1) (bEq r3.2 r4.2) false) r5 false)))))))
theorem val (a0 : Row) (a1 : Row) (a2 : Rows) (ha0 : Br a0) (ha1 : Br a1) (ha2 : Brs a2) : DV (fun k => (f k a0 a1 a2).eval) (v a0 a1 a2) Pt := (DG.bnd (law39_small.val _ _ _ (Br.eta ha0 _) (Br.eta ha1 _) ha2) (fun hr0 => (DG.opt (fun h_2 => (law36_Distinct.val _ (Br.sl ha0 _))) (fun _ => trivial) (fun hr1 => (DG.test (fun h_3 => (DG.bnd (law39_lives.val ) (fun hr2 => (DG.ret trivial)))) (fun h_3 => (DG.bnd (score_Best.val _ _ _ (Br.eta ha0 _) (Br.eta ha1 _) ha2) (fun hr3 => (DG.bnd (ref39_Best.val _ _ _ (Br.eta ha0 _) (Br.eta ha1 _) ha2) (fun hr4 => (DG.opt (fun h_7 => (law39_lives.val )) (fun _ => trivial) (fun hr5 => (DG.ret trivial)))))))))))))
end law39_ScorePicks
namespace law39_ScoreBest
def p7 (c2 : ByteArray) (c3 : Bool) (c4 : Bool) (c7 : Row) (c8 : Row) (c9 : Row) (i : Int) (q : Row) (x : Bool) : (Bool) ⊕ (Bool ⊕ Bool) := (let r0 := (ref36_NodeOf.v (et 26 c7) (rStr q 0)); (let r1 := bif (bAnd r0.2 (bNot (bIte (bNot c3) true (bNot c4)))) then (score_Total.v (et 26 c7) (et 45 c8) (et 51 r0.1)) else default; (let r2 := bif (bAnd r0.2 (bNot (bIte (bNot c3) true (bNot c4)))) then (score_Total.v (et 26 c7) (et 45 c8) (et 51 c9)) else default; (let r3 := bif (bAnd r0.2 (bNot (bIte (bIte (bNot c3) true (bNot c4)) true (iLt r2 r1)))) then (score_Total.v (et 26 c7) (et 45 c8) (et 51 r0.1)) else default; (let r4 := bif (bAnd r0.2 (bNot (bIte (bIte (bNot c3) true (bNot c4)) true (iLt r2 r1)))) then (score_Total.v (et 26 c7) (et 45 c8) (et 51 c9)) else default; (bif (bIte r0.2 (bIte (bIte (bIte (bNot c3) true (bNot c4)) true (iLt r2 r1)) true (bIte (iEq r3 r4) (sLt (rStr q 0) c2) false)) false) then (.inr (.inl false)) else (.inl (bIte x true (sEq (rStr q 0) c2)))))))))
def z7 (x : Bool) : Bool ⊕ Bool := (.inr x)
def w7 (c2 : ByteArray) (c3 : Bool) (c4 : Bool) (c5 : Rows) (c7 : Row) (c8 : Row) (c9 : Row) (x0 : Bool) : Bool ⊕ Bool := walk (p7 c2 c3 c4 c7 c8 c9) z7 c5 0 x0
def v (a0 : Row) (a1 : Row) (a2 : Rows) (a3 : Int) : Bool := (let r0 := (law39_small.v (et 26 a0) (et 45 a1) a2); (let r1 := bif (bNot (bIte (bNot r0) true (iLt 10 (rLen a2)))) then (law36_Distinct.v (rSl a0 1)) else default; (bif (bIte (bIte (bNot r0) true (iLt 10 (rLen a2))) true (bNot r1)) then (let r2 := (law39_lives.v ); r2) else (let r3 := (score_Best.v (et 26 a0) (et 45 a1) a2); (let r4 := (ref36_NodeOf.v (et 26 a0) r3.1); (Sum.elim (fun r5 => r5) (fun r6 => (bif (bIte r3.2 (bNot r6) false) then false else (bif (iLt 0 (rLen a2)) then (let r7 := (score_Best.v (et 26 a0) (et 45 a1) (rCat (rCat (rCat [] (rCut a2 (iRem (iCv .i64 a3) (rLen a2)) (rLen a2))) (rCut a2 0 (iRem (iCv .i64 a3) (rLen a2)))) [[.str (rStr (rAt a2 (iRem (iCv .i64 a3) (rLen a2))) 0)]])); (bif (bIte (bNot (sEq r7.1 r3.1)) true (bNot (bEq r7.2 r3.2))) then false else (let r8 := (law39_lives.v ); r8))) else (let r9 := (law39_lives.v ); r9)))) (law39_ScoreBest.w7 r3.1 r3.2 r4.2 a2 (et 26 a0) (et 45 a1) (et 51 r4.1) false)))))))
theorem w7_v (c0 : Rows) (c1 : Int) (c2 : ByteArray) (c3 : Bool) (c4 : Bool) (c5 : Rows) (c6 : Int) (c7 : Row) (c8 : Row) (c9 : Row) (hc5 : Brs c5) (hc7 : Br c7) (hc8 : Br c8) (hc9 : Br c9) (ec6 : c6 = rLen c5) (x0 : Bool) (h0 : True) : DV (fun k => iter (s7 k c0 c1 c2 c3 c4 c5 c6 c7 c8 c9) k ((fun (x : Bool) (i : Int) => (x, i)) x0 0)) (w7 c2 c3 c4 c5 c7 c8 c9 x0) (Ps Pt Pt) := by
  subst ec6; refine DV.walk (fun (x : Bool) (i : Int) => (x, i)) hc5.1 (p7 c2 c3 c4 c7 c8 c9) z7 (fun (i : Int) (x : Bool) => True) (Ps Pt Pt) (fun i x hp hi hI => ?_) (fun i x hie hi hI => ?_) x0 h0
  · have hlt := lt_of hc5.1 hi
    have hle := Int.le_of_lt hlt
    have hin := iIn_lt hp hi
    exact DG.tt hi (DG.tt hin (DG.bnd (ref36_NodeOf.val _ _ (Br.eta hc7 _)) (fun hr0 => (DG.opt (fun h_2 => (score_Total.val _ _ _ (Br.eta hc7 _) (Br.eta hc8 _) (Br.eta hr0.1 _))) (fun _ => trivial) (fun hr1 => (DG.opt (fun h_3 => (score_Total.val _ _ _ (Br.eta hc7 _) (Br.eta hc8 _) (Br.eta hc9 _))) (fun _ => trivial) (fun hr2 => (DG.opt (fun h_4 => (score_Total.val _ _ _ (Br.eta hc7 _) (Br.eta hc8 _) (Br.eta hr0.1 _))) (fun _ => trivial) (fun hr3 => (DG.opt (fun h_5 => (score_Total.val _ _ _ (Br.eta hc7 _) (Br.eta hc8 _) (Br.eta hc9 _))) (fun _ => trivial) (fun hr4 => (DG.test (fun h_6 => (DG.inr rfl trivial)) (fun h_6 => (DG.inl rfl trivial))))))))))))))
  · have hle := eq_le hc5.1 hie
    exact DG.ff hi (DG.ex rfl trivial)
theorem val (a0 : Row) (a1 : Row) (a2 : Rows) (a3 : Int) (ha0 : Br a0) (ha1 : Br a1) (ha2 : Brs a2) (hu : 0 ≤ a3 ∧ a3 ≤ 255) : DV (fun k => (f k a0 a1 a2 a3).eval) (v a0 a1 a2 a3) Pt := (DG.bnd (law39_small.val _ _ _ (Br.eta ha0 _) (Br.eta ha1 _) ha2) (fun hr0 => (DG.opt (fun h_2 => (law36_Distinct.val _ (Br.sl ha0 _))) (fun _ => trivial) (fun hr1 => (DG.test (fun h_3 => (DG.bnd (law39_lives.val ) (fun hr2 => (DG.ret trivial)))) (fun h_3 => (DG.bnd (score_Best.val _ _ _ (Br.eta ha0 _) (Br.eta ha1 _) ha2) (fun hr3 => (DG.bnd (ref36_NodeOf.val _ _ (Br.eta ha0 _)) (fun hr4 => (DG.cas (law39_ScoreBest.w7_v _ _ _ _ _ _ _ _ _ _ ha2 (Br.eta ha0 _) (Br.eta ha1 _) (Br.eta hr4.1 _) rfl _ trivial) (fun r5 hr5 => (DG.ret trivial)) (fun r6 hr6 => (DG.test (fun h_7 => (DG.ret trivial)) (fun h_7 => (DG.test (fun h_8 => (DG.tt (ne_gt h_8 (by decide)) (DG.tt (decide_eq_true ⟨(rem_lt hu h_8).1, Int.le_of_lt (rem_lt hu h_8).2, Int.le_refl _⟩) (DG.tt (rOk_few (by decide) (by decide) (by have h7 := cut_len a2 (iRem (iCv .i64 a3) (rLen a2)) (rLen a2); have h8 := ten h_3; unfold rLen at h8; show ((rCut a2 (iRem (iCv .i64 a3) (rLen a2)) (rLen a2)).length : Int) ≤ 100; omega) (rl_pos _) (rl_pos _)) (DG.tt (decide_eq_true ⟨Int.le_refl _, (rem_lt hu h_8).1, Int.le_of_lt (rem_lt hu h_8).2⟩) (DG.tt (rOk_few (by decide) (by have h7 := cut_len a2 (iRem (iCv .i64 a3) (rLen a2)) (rLen a2); have h8 := ten h_3; unfold rLen at h8; show ((rCut a2 (iRem (iCv .i64 a3) (rLen a2)) (rLen a2)).length : Int) ≤ 100; omega) (by have h7 := cut_len a2 0 (iRem (iCv .i64 a3) (rLen a2)); have h8 := ten h_3; unfold rLen at h8; show ((rCut a2 0 (iRem (iCv .i64 a3) (rLen a2))).length : Int) ≤ 100; omega) (rl_pos _) (rl_pos _)) (DG.tt (decide_eq_true (rem_lt hu h_8)) (DG.tt (rOk_few (by decide) (by have h7 := turn_len a2 (iRem (iCv .i64 a3) (rLen a2)); have h8 := ten h_3; unfold rLen at h8; show ((rCat (rCat [] (rCut a2 (iRem (iCv .i64 a3) (rLen a2)) (rLen a2))) (rCut a2 0 (iRem (iCv .i64 a3) (rLen a2)))).length : Int) ≤ 100; omega) (by show (1 : Int) ≤ 100; decide) (rl_pos _) (rl_pos _)) (DG.bnd (score_Best.val _ _ _ (Br.eta ha0 _) (Br.eta ha1 _) (brs_turn ha2 (ten h_3) (br_cons (brc_str (Br.str (Brs.at ha2 _) _)) br_nil))) (fun hr7 => (DG.test (fun h_10 => (DG.ret trivial)) (fun h_10 => (DG.bnd (law39_lives.val ) (fun hr8 => (DG.ret trivial))))))))))))))) (fun h_8 => (DG.bnd (law39_lives.val ) (fun hr9 => (DG.ret trivial)))))))))))))))))))
end law39_ScoreBest
namespace law39_ScoreShares
def v (a0 : Row) (a1 : Row) (a2 : Row) (a3 : Row) : Bool := (let r0 := (law39_small.v (et 26 a0) (et 45 a1) []); (let r1 := bif (bNot (bNot r0)) then (law36_SmallNode.v (et 51 a2)) else default; (let r2 := bif (bNot (bIte (bNot r0) true (bNot r1))) then (law36_Distinct.v (rSl a0 1)) else default; (bif (bIte (bIte (bNot r0) true (bNot r1)) true (bNot r2)) then (let r3 := (law39_lives.v ); r3) else (let r4 := (score_Spare.v (et 26 a0) (et 45 a1) (et 51 a2)); (let r5 := (score_Balance.v (et 26 a0) (et 45 a1) (et 51 a2)); (bif (bIte (bIte (bIte (iLt r4 0) true (iLt 100 r4)) true (iLt r5 0)) true (iLt 100 r5)) then false else (let r6 := (score_Spare.v (et 26 a0) (rJ [[.str (rStr a1 0), .str (rStr a1 1), .str (rStr a1 2)], eo 47 a1 3, [.int .i64 (rInt a1 6), .bool (rBool a1 7), .int .i64 (rInt a1 8), .slice 89 (rSl a1 9) .open, .slice 91 (rSl a1 10) .open, .slice 9 (rSl a1 11) .open, .slice 93 (rSl a1 12) .open, .str (rStr a1 13)], eo 47 a1 14, [.slice 65 (rCat (rCat [] (rSl a1 17)) [rJ [[.str ByteArray.empty, .str ByteArray.empty], et 47 a3, [.int .i64 0, .int .i64 0, .int .i64 0, .slice 227 [] .open, .slice 227 [] .open, .slice 227 [] .open]]]) .open, .slice 129 (rSl a1 18) .open, .slice 103 (rSl a1 19) .open, .slice 107 (rSl a1 20) .open, .slice 112 (rSl a1 21) .open, .slice 147 (rSl a1 22) .open, .int .i64 (rInt a1 23), .bool (rBool a1 24)], eo 47 a1 25, [.slice 218 (rSl a1 28) .open, .int .i64 (rInt a1 29), .str (rStr a1 30), .str (rStr a1 31)]]) (et 51 a2)); (let r7 := bif (iLe r6 r4) then (law39_lives.v ) else default; (bIte (iLe r6 r4) r7 false))))))))))
theorem val (a0 : Row) (a1 : Row) (a2 : Row) (a3 : Row) (ha0 : Br a0) (ha1 : Br a1) (ha2 : Br a2) (ha3 : Br a3) (hc : rLen (rSl a1 17) ≤ 1048575) : DV (fun k => (f k a0 a1 a2 a3).eval) (v a0 a1 a2 a3) Pt := (DG.bnd (law39_small.val _ _ _ (Br.eta ha0 _) (Br.eta ha1 _) (brs_of (Nat.le_of_ble_eq_true rfl) all_nil)) (fun hr0 => (DG.opt (fun h_2 => (law36_SmallNode.val _ (Br.eta ha2 _))) (fun _ => trivial) (fun hr1 => (DG.opt (fun h_3 => (law36_Distinct.val _ (Br.sl ha0 _))) (fun _ => trivial) (fun hr2 => (DG.test (fun h_4 => (DG.bnd (law39_lives.val ) (fun hr3 => (DG.ret trivial)))) (fun h_4 => (DG.bnd (score_Spare.val _ _ _ (Br.eta ha0 _) (Br.eta ha1 _)) (fun hr4 => (DG.bnd (score_Balance.val _ _ _ (Br.eta ha0 _) (Br.eta ha1 _)) (fun hr5 => (DG.test (fun h_8 => (DG.ret trivial)) (fun h_8 => (DG.tt (rOk_two (by decide) (brs_of (Nat.le_of_ble_eq_true rfl) all_nil) (Br.sl ha1 _)) (DG.tt (rOk_two (by decide) (brs_nilcat (Br.sl ha1 _)) (brs_of (Nat.le_of_ble_eq_true rfl) (all_cons (br_rJ (all_cons (br_cons (brc_str (Nat.le_trans (@Nat.le_of_ble_eq_true _ 0 rfl) (Nat.le_of_ble_eq_true rfl))) (br_cons (brc_str (Nat.le_trans (@Nat.le_of_ble_eq_true _ 0 rfl) (Nat.le_of_ble_eq_true rfl))) br_nil)) (all_cons (Br.eta ha3 _) (all_cons (br_cons brc_int (br_cons brc_int (br_cons brc_int (br_cons (brc_slice (brs_of (Nat.le_of_ble_eq_true rfl) all_nil)) (br_cons (brc_slice (brs_of (Nat.le_of_ble_eq_true rfl) all_nil)) (br_cons (brc_slice (brs_of (Nat.le_of_ble_eq_true rfl) all_nil)) br_nil)))))) all_nil)))) all_nil))) (DG.bnd (score_Spare.val _ _ _ (Br.eta ha0 _) (br_rJ (all_cons (br_cons (brc_str (Br.str ha1 _)) (br_cons (brc_str (Br.str ha1 _)) (br_cons (brc_str (Br.str ha1 _)) br_nil))) (all_cons (br_etaL ha1 _ _) (all_cons (br_cons brc_int (br_cons brc_bool (br_cons brc_int (br_cons (brc_slice (Br.sl ha1 _)) (br_cons (brc_slice (Br.sl ha1 _)) (br_cons (brc_slice (Br.sl ha1 _)) (br_cons (brc_slice (Br.sl ha1 _)) (br_cons (brc_str (Br.str ha1 _)) br_nil)))))))) (all_cons (br_etaL ha1 _ _) (all_cons (br_cons (brc_slice (brs_push (Br.sl ha1 17) (br_rJ (all_cons (br_cons (brc_str (by decide)) (br_cons (brc_str (by decide)) br_nil)) (all_cons (Br.eta ha3 _) (all_cons (br_cons brc_int (br_cons brc_int (br_cons brc_int (br_cons (brc_slice brs_nil) (br_cons (brc_slice brs_nil) (br_cons (brc_slice brs_nil) br_nil)))))) all_nil)))) hc)) (br_cons (brc_slice (Br.sl ha1 _)) (br_cons (brc_slice (Br.sl ha1 _)) (br_cons (brc_slice (Br.sl ha1 _)) (br_cons (brc_slice (Br.sl ha1 _)) (br_cons (brc_slice (Br.sl ha1 _)) (br_cons brc_int (br_cons brc_bool br_nil)))))))) (all_cons (br_etaL ha1 _ _) (all_cons (br_cons (brc_slice (Br.sl ha1 _)) (br_cons brc_int (br_cons (brc_str (Br.str ha1 _)) (br_cons (brc_str (Br.str ha1 _)) br_nil)))) all_nil))))))))) (fun hr6 => (DG.opt (fun h_10 => (law39_lives.val )) (fun _ => trivial) (fun hr7 => (DG.ret trivial)))))))))))))))))))))
end law39_ScoreShares

end
end Go.Proofs.YtilppppcafphbaaGreat.Ev
