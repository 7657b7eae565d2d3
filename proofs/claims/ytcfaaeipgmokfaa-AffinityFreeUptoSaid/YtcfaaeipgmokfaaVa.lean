/- Plain values of the printed functions. Conditions: stated at each. -/
import Derived.Test.YtcfaaeipgmokfaaPw
import Derived.Test.YtcfaaeipgmokfaaE0
import Derived.Test.YtcfaaeipgmokfaaPf
namespace Go.Proofs.Ytcfaaeipgmokfaa.Ev
open Go Go.RowKit
set_option linter.unusedVariables false
set_option maxRecDepth 100000
noncomputable section
namespace law19_SmallPod
noncomputable def v (a0 : Row) : Bool := lim (fun k => (f k a0).eval)
theorem val (a0 : Row) (ha0 : Br a0) : DV (fun k => (f k a0).eval) (v a0) Pt := DV.lim (dd a0 ha0)
end law19_SmallPod
namespace law36_SmallPod
def v (a0 : Row) : Bool := (let r0 := (law19_SmallPod.v (et 40 a0)); (bIte (bIte (bIte (bIte r0 (iLe (rLen (rSl a0 19)) 30) false) (iLe (rLen (rSl a0 20)) 30) false) (iLe (rLen (rSl a0 21)) 10) false) (iLe (rLen (rSl a0 22)) 60) false))
theorem val (a0 : Row) (ha0 : Br a0) : DV (fun k => (f k a0).eval) (v a0) Pt := (DG.bnd (law19_SmallPod.val _ (Br.eta ha0 _)) (fun hr0 => (DG.ret trivial)))
end law36_SmallPod
theorem smallPod_terms {p : Row} (h : law36_SmallPod.v (et 40 p) = true) : rLen (rSl p 20) ≤ 1048575 := by
  have h1 : iLe (rLen (rSl (et 40 p) 20)) 30 = true := and_r (and_l (and_l h))
  have h2 : rLen (rSl (et 40 p) 20) ≤ 30 := of_decide_eq_true h1
  have h3 : rLen (rSl p 20) ≤ 30 := h2
  omega
namespace law36_SmallNode
noncomputable def v (a0 : Row) : Bool := lim (fun k => (f k a0).eval)
theorem val (a0 : Row) (ha0 : Br a0) : DV (fun k => (f k a0).eval) (v a0) Pt := DV.lim (dd a0 ha0)
end law36_SmallNode
namespace ref03_ValidSelector
noncomputable def v (a0 : Rows) : Bool := lim (fun k => (f k a0).eval)
theorem val (a0 : Rows) (ha0 : Brs a0) : DV (fun k => (f k a0).eval) (v a0) Pt := DV.lim (dd a0 ha0)
end ref03_ValidSelector
namespace law22_Small
noncomputable def v (a0 : Rows) : Bool := lim (fun k => (f k a0).eval)
theorem val (a0 : Rows) (ha0 : Brs a0) : DV (fun k => (f k a0).eval) (v a0) Pt := DV.lim (dd a0 ha0)
end law22_Small
namespace law36_SmallView
noncomputable def v (a0 : Row) : Bool := lim (fun k => (f k a0).eval)
theorem val (a0 : Row) (ha0 : Br a0) : DV (fun k => (f k a0).eval) (v a0) Pt := DV.lim (dd a0 ha0)
end law36_SmallView
namespace label_Get
def p2 (c0 : ByteArray) (i : Int) (q : Row) (x : Unit) : (Unit) ⊕ ((ByteArray × Bool) ⊕ Unit) := (bif (sEq (rStr q 0) c0) then (.inr (.inl (rStr q 1, true))) else (.inl ()))
def z2 (x : Unit) : (ByteArray × Bool) ⊕ Unit := (.inr ())
def w2 (c0 : ByteArray) (c1 : Rows) : (ByteArray × Bool) ⊕ Unit := walk (p2 c0) z2 c1 0 ()
def v (a0 : Rows) (a1 : ByteArray) : (ByteArray × Bool) := (Sum.elim (fun r0 => (r0.1, r0.2)) (fun r1 => (ByteArray.empty, false)) (label_Get.w2 a1 a0))
theorem w2_v (c0 : ByteArray) (c1 : Rows) (c2 : Int) (hc1 : Brs c1) (ec2 : c2 = rLen c1) (x0 : Unit) (h0 : True) : DV (fun k => iter (s2 k c0 c1 c2) k ((fun (x : Unit) (i : Int) => i) x0 0)) (w2 c0 c1) (Ps (Pp (Sz 1048576) Pt) Pt) := by
  subst ec2; refine DV.walk (fun (x : Unit) (i : Int) => i) hc1.1 (p2 c0) z2 (fun (i : Int) (x : Unit) => True) (Ps (Pp (Sz 1048576) Pt) Pt) (fun i x hp hi hI => ?_) (fun i x hie hi hI => ?_) x0 h0
  · have hlt := lt_of hc1.1 hi
    have hle := Int.le_of_lt hlt
    have hin := iIn_lt hp hi
    exact DG.tt hi (DG.tt hin (DG.test (fun h_1 => (DG.inr rfl ⟨(Br.str (Brs.at hc1 _) _), trivial⟩)) (fun h_1 => (DG.inl rfl trivial))))
  · have hle := eq_le hc1.1 hie
    exact DG.ff hi (DG.ex rfl trivial)
theorem val (a0 : Rows) (a1 : ByteArray) (ha0 : Brs a0) : DV (fun k => (f k a0 a1).eval) (v a0 a1) (Pp (Sz 1048576) Pt) := (DG.cas (label_Get.w2_v _ _ _ ha0 rfl () trivial) (fun r0 hr0 => (DG.ret ⟨hr0.1, trivial⟩)) (fun r1 hr1 => (DG.ret ⟨(Nat.le_trans (@Nat.le_of_ble_eq_true _ 0 rfl) (Nat.le_of_ble_eq_true rfl)), trivial⟩)))
end label_Get
namespace affinity_Domain
def v (a0 : Row) (a1 : ByteArray) : (ByteArray × Bool) := (let r0 := (label_Get.v (rSl a0 9) a1); (r0.1, r0.2))
theorem val (a0 : Row) (a1 : ByteArray) (ha0 : Br a0) : DV (fun k => (f k a0 a1).eval) (v a0 a1) (Pp (Sz 1048576) Pt) := (DG.bnd (label_Get.val _ _ (Br.sl ha0 _)) (fun hr0 => (DG.ret ⟨hr0.1, trivial⟩)))
end affinity_Domain
namespace slices_Index_string_string
def p2 (c1 : ByteArray) (i : Int) (q : Row) (x : Unit) : (Unit) ⊕ (Int ⊕ Unit) := (bif (sEq c1 (rStr q 0)) then (.inr (.inl i)) else (.inl ()))
def z2 (x : Unit) : Int ⊕ Unit := (.inr ())
def w2 (c0 : Rows) (c1 : ByteArray) : Int ⊕ Unit := walk (p2 c1) z2 c0 0 ()
def v (a0 : Rows) (a1 : ByteArray) : Int := (Sum.elim (fun r0 => r0) (fun r1 => (-1)) (slices_Index_string_string.w2 a0 a1))
theorem w2_v (c0 : Rows) (c1 : ByteArray) (c2 : Int) (hc0 : Brs c0) (ec2 : c2 = rLen c0) (x0 : Unit) (h0 : True) : DV (fun k => iter (s2 k c0 c1 c2) k ((fun (x : Unit) (i : Int) => i) x0 0)) (w2 c0 c1) (Ps Pt Pt) := by
  subst ec2; refine DV.walk (fun (x : Unit) (i : Int) => i) hc0.1 (p2 c1) z2 (fun (i : Int) (x : Unit) => True) (Ps Pt Pt) (fun i x hp hi hI => ?_) (fun i x hie hi hI => ?_) x0 h0
  · have hlt := lt_of hc0.1 hi
    have hle := Int.le_of_lt hlt
    have hin := iIn_lt hp hi
    exact DG.tt hi (DG.tt hin (DG.test (fun h_1 => (DG.inr rfl trivial)) (fun h_1 => (DG.inl rfl trivial))))
  · have hle := eq_le hc0.1 hie
    exact DG.ff hi (DG.ex rfl trivial)
theorem val (a0 : Rows) (a1 : ByteArray) (ha0 : Brs a0) : DV (fun k => (f k a0 a1).eval) (v a0 a1) Pt := (DG.cas (slices_Index_string_string.w2_v _ _ _ ha0 rfl () trivial) (fun r0 hr0 => (DG.ret trivial)) (fun r1 hr1 => (DG.ret trivial)))
end slices_Index_string_string
namespace slices_Contains_string_string
def v (a0 : Rows) (a1 : ByteArray) : Bool := (let r0 := (slices_Index_string_string.v a0 a1); (iLe 0 r0))
theorem val (a0 : Rows) (a1 : ByteArray) (ha0 : Brs a0) : DV (fun k => (f k a0 a1).eval) (v a0 a1) Pt := (DG.bnd (slices_Index_string_string.val _ _ ha0) (fun hr0 => (DG.ret trivial)))
end slices_Contains_string_string
namespace label_holds
def v (a0 : Row) (a1 : Rows) : Bool := (let r0 := (label_Get.v a1 (rStr a0 0)); (bif (iEq (rInt a0 1) 1) then (let r1 := bif r0.2 then (slices_Contains_string_string.v (rSl a0 2) r0.1) else default; (bIte r0.2 r1 false)) else (bif (iEq (rInt a0 1) 2) then (let r2 := bif (bNot (bNot r0.2)) then (slices_Contains_string_string.v (rSl a0 2) r0.1) else default; (bIte (bNot r0.2) true (bNot r2))) else (bif (iEq (rInt a0 1) 3) then r0.2 else (bif (iEq (rInt a0 1) 4) then (bNot r0.2) else false)))))
theorem val (a0 : Row) (a1 : Rows) (ha0 : Br a0) (ha1 : Brs a1) : DV (fun k => (f k a0 a1).eval) (v a0 a1) Pt := (DG.bnd (label_Get.val _ _ ha1) (fun hr0 => (DG.test (fun h_2 => (DG.opt (fun h_3 => (slices_Contains_string_string.val _ _ (Br.sl ha0 _))) (fun _ => trivial) (fun hr1 => (DG.ret trivial)))) (fun h_2 => (DG.test (fun h_4 => (DG.opt (fun h_5 => (slices_Contains_string_string.val _ _ (Br.sl ha0 _))) (fun _ => trivial) (fun hr2 => (DG.ret trivial)))) (fun h_4 => (DG.test (fun h_6 => (DG.ret trivial)) (fun h_6 => (DG.test (fun h_7 => (DG.ret trivial)) (fun h_7 => (DG.ret trivial)))))))))))
end label_holds
namespace label_Matches
def p2 (c0 : Rows) (i : Int) (q : Row) (x : Unit) : (Unit) ⊕ (Bool ⊕ Unit) := (let r0 := (label_holds.v (et 94 q) c0); (bif (bNot r0) then (.inr (.inl false)) else (.inl ())))
def z2 (x : Unit) : Bool ⊕ Unit := (.inr ())
def w2 (c0 : Rows) (c1 : Rows) : Bool ⊕ Unit := walk (p2 c0) z2 c1 0 ()
def v (a0 : Rows) (a1 : Rows) : Bool := (Sum.elim (fun r0 => r0) (fun r1 => true) (label_Matches.w2 a1 a0))
theorem w2_v (c0 : Rows) (c1 : Rows) (c2 : Int) (hc0 : Brs c0) (hc1 : Brs c1) (ec2 : c2 = rLen c1) (x0 : Unit) (h0 : True) : DV (fun k => iter (s2 k c0 c1 c2) k ((fun (x : Unit) (i : Int) => i) x0 0)) (w2 c0 c1) (Ps Pt Pt) := by
  subst ec2; refine DV.walk (fun (x : Unit) (i : Int) => i) hc1.1 (p2 c0) z2 (fun (i : Int) (x : Unit) => True) (Ps Pt Pt) (fun i x hp hi hI => ?_) (fun i x hie hi hI => ?_) x0 h0
  · have hlt := lt_of hc1.1 hi
    have hle := Int.le_of_lt hlt
    have hin := iIn_lt hp hi
    exact DG.tt hi (DG.tt hin (DG.bnd (label_holds.val _ _ (Br.eta (Brs.at hc1 _) _) hc0) (fun hr0 => (DG.test (fun h_2 => (DG.inr rfl trivial)) (fun h_2 => (DG.inl rfl trivial))))))
  · have hle := eq_le hc1.1 hie
    exact DG.ff hi (DG.ex rfl trivial)
theorem val (a0 : Rows) (a1 : Rows) (ha0 : Brs a0) (ha1 : Brs a1) : DV (fun k => (f k a0 a1).eval) (v a0 a1) Pt := (DG.cas (label_Matches.w2_v _ _ _ ha1 ha0 rfl () trivial) (fun r0 hr0 => (DG.ret trivial)) (fun r1 hr1 => (DG.ret trivial)))
end label_Matches
namespace affinity_NodeFits
def p4 (c2 : Row) (i : Int) (q : Row) (x : Unit) : (Unit) ⊕ (Bool ⊕ Unit) := (let r0 := bif (rBool q 0) then (label_Matches.v (rSl q 1) (rSl c2 9)) else default; (bif (bIte (rBool q 0) (bNot r0) false) then (.inr (.inl false)) else (.inl ())))
def z4 (x : Unit) : Bool ⊕ Unit := (.inr ())
def w4 (c0 : Rows) (c2 : Row) : Bool ⊕ Unit := walk (p4 c2) z4 c0 0 ()
def v (a0 : Row) (a1 : Row) : Bool := (let r0 := (label_Matches.v (rSl a0 5) (rSl a1 9)); (bif (bNot r0) then false else (Sum.elim (fun r1 => r1) (fun r2 => true) (affinity_NodeFits.w4 (rSl a0 6) (et 46 a1)))))
theorem w4_v (c0 : Rows) (c1 : Int) (c2 : Row) (hc0 : Brs c0) (hc2 : Br c2) (ec1 : c1 = rLen c0) (x0 : Unit) (h0 : True) : DV (fun k => iter (s4 k c0 c1 c2) k ((fun (x : Unit) (i : Int) => i) x0 0)) (w4 c0 c2) (Ps Pt Pt) := by
  subst ec1; refine DV.walk (fun (x : Unit) (i : Int) => i) hc0.1 (p4 c2) z4 (fun (i : Int) (x : Unit) => True) (Ps Pt Pt) (fun i x hp hi hI => ?_) (fun i x hie hi hI => ?_) x0 h0
  · have hlt := lt_of hc0.1 hi
    have hle := Int.le_of_lt hlt
    have hin := iIn_lt hp hi
    exact DG.tt hi (DG.tt hin (DG.opt (fun h_1 => (label_Matches.val _ _ (Br.sl (Brs.at hc0 _) _) (Br.sl hc2 _))) (fun _ => trivial) (fun hr0 => (DG.test (fun h_2 => (DG.inr rfl trivial)) (fun h_2 => (DG.inl rfl trivial))))))
  · have hle := eq_le hc0.1 hie
    exact DG.ff hi (DG.ex rfl trivial)
theorem val (a0 : Row) (a1 : Row) (ha0 : Br a0) (ha1 : Br a1) : DV (fun k => (f k a0 a1).eval) (v a0 a1) Pt := (DG.bnd (label_Matches.val _ _ (Br.sl ha0 _) (Br.sl ha1 _)) (fun hr0 => (DG.test (fun h_2 => (DG.ret trivial)) (fun h_2 => (DG.cas (affinity_NodeFits.w4_v _ _ _ (Br.sl ha0 _) (Br.eta ha1 _) rfl () trivial) (fun r1 hr1 => (DG.ret trivial)) (fun r2 hr2 => (DG.ret trivial)))))))
end affinity_NodeFits
namespace meta_Key
def v (a0 : ByteArray) (a1 : ByteArray) (a2 : ByteArray) : ByteArray := (sCat (sCat (sCat (sCat a0 (bs [47])) a1) (bs [47])) a2)
theorem val (a0 : ByteArray) (a1 : ByteArray) (a2 : ByteArray) (ha0 : Sz 1048576 a0) (ha1 : Sz 1048576 a1) (ha2 : Sz 1048576 a2) : DV (fun k => (f k a0 a1 a2).eval) (v a0 a1 a2) (Sz 3145730) := (DG.tt (sOk_sz ha0 (@Nat.le_of_ble_eq_true _ 1 rfl) (by decide)) (DG.tt (sOk_sz (sz_cat ha0 (@Nat.le_of_ble_eq_true _ 1 rfl)) ha1 (by decide)) (DG.tt (sOk_sz (sz_cat (sz_cat ha0 (@Nat.le_of_ble_eq_true _ 1 rfl)) ha1) (@Nat.le_of_ble_eq_true _ 1 rfl) (by decide)) (DG.tt (sOk_sz (sz_cat (sz_cat (sz_cat ha0 (@Nat.le_of_ble_eq_true _ 1 rfl)) ha1) (@Nat.le_of_ble_eq_true _ 1 rfl)) ha2 (by decide)) (DG.ret (sz_cat (sz_cat (sz_cat (sz_cat ha0 (@Nat.le_of_ble_eq_true _ 1 rfl)) ha1) (@Nat.le_of_ble_eq_true _ 1 rfl)) ha2))))))
end meta_Key
namespace meta_KeyOf
def v (a0 : Row) : ByteArray := (let r0 := (meta_Key.v (rStr a0 0) (rStr a0 1) (rStr a0 2)); r0)
theorem val (a0 : Row) (ha0 : Br a0) : DV (fun k => (f k a0).eval) (v a0) (Sz 3145730) := (DG.bnd (meta_Key.val _ _ _ (Br.str ha0 _) (Br.str ha0 _) (Br.str ha0 _)) (fun hr0 => (DG.ret hr0)))
end meta_KeyOf
namespace affinity_selects
def v (a0 : Row) (a1 : ByteArray) (a2 : Row) : Bool := (let r0 := bif (sEq (rStr a2 1) a1) then (label_Matches.v (rSl a0 2) (rSl a2 9)) else default; (bIte (sEq (rStr a2 1) a1) r0 false))
theorem val (a0 : Row) (a1 : ByteArray) (a2 : Row) (ha0 : Br a0) (ha2 : Br a2) : DV (fun k => (f k a0 a1 a2).eval) (v a0 a1 a2) Pt := (DG.opt (fun h_1 => (label_Matches.val _ _ (Br.sl ha0 _) (Br.sl ha2 _))) (fun _ => trivial) (fun hr0 => (DG.ret trivial)))
end affinity_selects
namespace affinity_together
def v (a0 : Row) (a1 : Row) (a2 : ByteArray) : Bool := (let r0 := (affinity_Domain.v (et 46 a0) a2); (let r1 := (affinity_Domain.v (et 46 a1) a2); (bIte (bIte r0.2 r1.2 false) (sEq r0.1 r1.1) false)))
theorem val (a0 : Row) (a1 : Row) (a2 : ByteArray) (ha0 : Br a0) (ha1 : Br a1) : DV (fun k => (f k a0 a1 a2).eval) (v a0 a1 a2) Pt := (DG.bnd (affinity_Domain.val _ _ (Br.eta ha0 _)) (fun hr0 => (DG.bnd (affinity_Domain.val _ _ (Br.eta ha1 _)) (fun hr1 => (DG.ret trivial)))))
end affinity_together
namespace affinity_others
def p7 (c0 : Rows) (c8 : Row) (i : Int) (q : Row) (x : Unit) : (Unit) ⊕ (Rows) := (bif (sEq (rStr q 2) (rStr c8 13)) then (.inr (rCat c0 [rJ [et 40 c8, et 27 q, [.int .i64 (rInt q 13), .int .i64 (rInt q 14), .int .i64 (rInt q 15), .int .i64 (rInt q 16), .bool (rBool q 17), .slice 167 (rSl q 18) .open, .bool (rBool q 19), .int .i64 (rInt q 20), .bool (rBool q 21), .bool (rBool q 22), .slice 169 (rSl q 23) .open]]])) else (.inl ()))
def z7 (c0 : Rows) (x : Unit) : Rows := c0
def w7 (c0 : Rows) (c4 : Rows) (c8 : Row) : Rows := walk (p7 c0 c8) (z7 c0) c4 0 ()
def p3 (c2 : Row) (c3 : Row) (i : Int) (q : Row) (x : Rows) : (Rows) ⊕ (Rows) := (let r0 := (meta_KeyOf.v (et 27 q)); (let r1 := (meta_KeyOf.v (et 27 c3)); (bif (bIte (sEq r0 r1) true (bIte (bNot (iEq (rInt q 23) 0)) (bNot (iEq (rInt q 23) 1)) false)) then (.inl x) else (let r2 := (affinity_others.w7 x (rSl c2 0) (et 40 q)); (.inl r2)))))
def z3 (x : Rows) : Rows := x
def w3 (c0 : Rows) (c2 : Row) (c3 : Row) (x0 : Rows) : Rows := walk (p3 c2 c3) z3 c0 0 x0
def v (a0 : Row) (a1 : Row) : Rows := (let r0 := (affinity_others.w3 (rSl a0 1) (et 58 a0) (et 40 a1) []); r0)
end affinity_others
namespace affinity_others
theorem w7_v (c0 c1 : Rows) (c2 c3 : Int) (c4 : Rows) (c5 : Int) (c6 c7 c8 : Row) (h4 : Brs c4) (h8 : Br c8) (e5 : c5 = rLen c4) (n : Int) (hn : n ≤ 1048575) (g : Grow n c0) :
    DV (fun k => iter (s7 k c0 c1 c2 c3 c4 c5 c6 c7 c8) k ((fun (x : Unit) (i : Int) => i) () 0)) (w7 c0 c4 c8) (Grow (n + 1)) := by
  subst e5
  refine DV.walk (fun (x : Unit) (i : Int) => i) h4.1 (p7 c0 c8) (z7 c0) (fun (i : Int) (x : Unit) => True) (Grow (n + 1)) (fun i x hp hi hI => ?_) (fun i x hie hi hI => ?_) () trivial
  · have hin := iIn_lt hp hi
    have hx := Brs.at h4 i
    exact DG.tt hi (DG.tt hin (DG.test (fun _ => DG.tt (Grow.ok g (by omega) (by decide)) (DG.inr rfl (Grow.push g (br_rJ (all_cons (Br.eta h8 _) (all_cons (Br.eta hx _) (all_cons (br_cons brc_int (br_cons brc_int (br_cons brc_int (br_cons brc_int (br_cons brc_bool (br_cons (brc_slice (Br.sl hx _)) (br_cons brc_bool (br_cons brc_int (br_cons brc_bool (br_cons brc_bool (br_cons (brc_slice (Br.sl hx _)) br_nil))))))))))) all_nil))))))) (fun _ => DG.inl rfl trivial)))
  · exact DG.ff hi (DG.ex rfl (Grow.same g))
theorem w3_v (c0 : Rows) (c1 : Int) (c2 c3 : Row) (h0 : Brs c0) (h2 : Br c2) (h3 : Br c3) (e1 : c1 = rLen c0) :
    DV (fun k => iter (s3 k c0 c1 c2 c3) k ((fun (x : Rows) (i : Int) => (x, i)) [] 0)) (w3 c0 c2 c3 []) Brs := by
  subst e1
  refine DV.walk (fun (x : Rows) (i : Int) => (x, i)) h0.1 (p3 c2 c3) z3 (fun (i : Int) (x : Rows) => Grow i x) Brs (fun i x hp hi hI => ?_) (fun i x hie hi hI => ?_) [] Grow.nil
  · have hin := iIn_lt hp hi
    have hlt := lt_of h0.1 hi
    have hx := Brs.at h0 i
    exact DG.tt hi (DG.tt hin (DG.bnd (meta_KeyOf.val _ (Br.eta hx _)) (fun hr0 => (DG.bnd (meta_KeyOf.val _ (Br.eta h3 _)) (fun hr1 => (DG.test (fun h_2 => (DG.inl rfl (Grow.same hI))) (fun h_2 => (DG.bnd (w7_v _ _ _ _ _ _ _ _ _ (Br.sl h2 _) (Br.eta hx _) rfl i (by omega) hI) (fun hr2 => (DG.inl rfl hr2))))))))))
  · exact DG.ff hi (DG.ex rfl (Grow.done hI (eq_le h0.1 hie)))
theorem val (a0 : Row) (a1 : Row) (ha0 : Br a0) (ha1 : Br a1) : DV (fun k => (f k a0 a1).eval) (v a0 a1) Brs := (DG.bnd (w3_v _ _ _ _ (Br.sl ha0 _) (Br.eta ha0 _) (Br.eta ha1 _) rfl) (fun hr0 => (DG.ret hr0)))
end affinity_others
namespace affinity_near
def p2 (c2 : Row) (c3 : Row) (c4 : Row) (i : Int) (q : Row) (x : Bool × Bool) : (Bool × Bool) ⊕ (Bool × Bool) := (let r0 := (affinity_selects.v (et 65 c2) (rStr c3 1) (et 40 q)); (bif r0 then (let r1 := bif (bNot x.1) then (affinity_together.v (et 46 c4) (eo 46 q 32) (rStr c2 3)) else default; (.inl ((bIte x.1 true r1), true))) else (.inl (x.1, x.2))))
def z2 (x : Bool × Bool) : Bool × Bool := (x.1, x.2)
def w2 (c0 : Rows) (c2 : Row) (c3 : Row) (c4 : Row) (x0 : Bool × Bool) : Bool × Bool := walk (p2 c2 c3 c4) z2 c0 0 x0
def v (a0 : Row) (a1 : Row) (a2 : Row) (a3 : Rows) : (Bool × Bool) := (let r0 := (affinity_near.w2 a3 (et 65 a0) (et 40 a1) (et 46 a2) (false, false)); (r0.1, r0.2))
theorem w2_v (c0 : Rows) (c1 : Int) (c2 : Row) (c3 : Row) (c4 : Row) (hc0 : Brs c0) (hc2 : Br c2) (hc4 : Br c4) (ec1 : c1 = rLen c0) (x0 : Bool × Bool) (h0 : True ∧ True) : DV (fun k => iter (s2 k c0 c1 c2 c3 c4) k ((fun (x : Bool × Bool) (i : Int) => (x.1, x.2, i)) x0 0)) (w2 c0 c2 c3 c4 x0) (Pp Pt Pt) := by
  subst ec1; refine DV.walk (fun (x : Bool × Bool) (i : Int) => (x.1, x.2, i)) hc0.1 (p2 c2 c3 c4) z2 (fun (i : Int) (x : Bool × Bool) => True ∧ True) (Pp Pt Pt) (fun i x hp hi hI => ?_) (fun i x hie hi hI => ?_) x0 h0
  · have hlt := lt_of hc0.1 hi
    have hle := Int.le_of_lt hlt
    have hin := iIn_lt hp hi
    exact DG.tt hi (DG.tt hin (DG.bnd (affinity_selects.val _ _ _ (Br.eta hc2 _) (Br.eta (Brs.at hc0 _) _)) (fun hr0 => (DG.test (fun h_2 => (DG.opt (fun h_3 => (affinity_together.val _ _ _ (Br.eta hc4 _) (br_etaL (Brs.at hc0 _) _ _))) (fun _ => trivial) (fun hr1 => (DG.inl rfl ⟨trivial, trivial⟩)))) (fun h_2 => (DG.inl rfl ⟨trivial, trivial⟩))))))
  · have hle := eq_le hc0.1 hie
    exact DG.ff hi (DG.ex rfl ⟨trivial, trivial⟩)
theorem val (a0 : Row) (a1 : Row) (a2 : Row) (a3 : Rows) (ha0 : Br a0) (ha2 : Br a2) (ha3 : Brs a3) : DV (fun k => (f k a0 a1 a2 a3).eval) (v a0 a1 a2 a3) (Pp Pt Pt) := (DG.bnd (affinity_near.w2_v _ _ _ _ _ ha3 (Br.eta ha0 _) (Br.eta ha2 _) rfl _ ⟨trivial, trivial⟩) (fun hr0 => (DG.ret ⟨trivial, trivial⟩)))
end affinity_near
namespace affinity_limit
def v (a0 : Int) : Int := (iMin (iMax a0 (-1000000000000000)) 1000000000000000)
theorem val (a0 : Int) : DV (fun k => (f k a0).eval) (v a0) Pt := (DG.ret trivial)
end affinity_limit
namespace affinity_Preference
def p4 (c4 : Row) (i : Int) (q : Row) (x : Int) : (Int) ⊕ (Int) := (let r0 := bif (bNot (rBool q 0)) then (label_Matches.v (rSl q 1) (rSl c4 9)) else default; (bif (bIte (bNot (rBool q 0)) r0 false) then (let r1 := (affinity_limit.v (rInt q 2)); (.inl (iAdd .i64 x r1))) else (.inl x)))
def z4 (x : Int) : Int := x
def w4 (c1 : Rows) (c4 : Row) (x0 : Int) : Int := walk (p4 c4) z4 c1 0 x0
def p10 (c0 : Rows) (c3 : Row) (c4 : Row) (i : Int) (q : Row) (x : Int) : (Int) ⊕ (Int) := (let r0 := (affinity_near.v (et 65 q) (et 40 c3) (et 46 c4) c0); (bif (bIte (rBool q 0) true (bNot r0.1)) then (.inl x) else (bif (rBool q 1) then (let r1 := (affinity_limit.v (rInt q 4)); (.inl (iSub .i64 x r1))) else (let r2 := (affinity_limit.v (rInt q 4)); (.inl (iAdd .i64 x r2))))))
def z10 (x : Int) : Int := x
def w10 (c0 : Rows) (c1 : Rows) (c3 : Row) (c4 : Row) (x0 : Int) : Int := walk (p10 c0 c3 c4) z10 c1 0 x0
def v (a0 : Row) (a1 : Row) (a2 : Row) : Int := (let r0 := (affinity_others.v (et 58 a0) (et 40 a1)); (let r1 := (affinity_Preference.w4 (rSl a1 19) (et 46 a2) 0); (let r2 := (affinity_Preference.w10 r0 (rSl a1 20) (et 40 a1) (et 46 a2) r1); (let r3 := (affinity_limit.v r2); r3))))
theorem w4_v (c0 : Rows) (c1 : Rows) (c2 : Int) (c3 : Row) (c4 : Row) (hc1 : Brs c1) (hc4 : Br c4) (ec2 : c2 = rLen c1) (x0 : Int) (h0 : True) : DV (fun k => iter (s4 k c0 c1 c2 c3 c4) k ((fun (x : Int) (i : Int) => (x, i)) x0 0)) (w4 c1 c4 x0) Pt := by
  subst ec2; refine DV.walk (fun (x : Int) (i : Int) => (x, i)) hc1.1 (p4 c4) z4 (fun (i : Int) (x : Int) => True) Pt (fun i x hp hi hI => ?_) (fun i x hie hi hI => ?_) x0 h0
  · have hlt := lt_of hc1.1 hi
    have hle := Int.le_of_lt hlt
    have hin := iIn_lt hp hi
    exact DG.tt hi (DG.tt hin (DG.opt (fun h_1 => (label_Matches.val _ _ (Br.sl (Brs.at hc1 _) _) (Br.sl hc4 _))) (fun _ => trivial) (fun hr0 => (DG.test (fun h_2 => (DG.bnd (affinity_limit.val _) (fun hr1 => (DG.inl rfl trivial)))) (fun h_2 => (DG.inl rfl trivial))))))
  · have hle := eq_le hc1.1 hie
    exact DG.ff hi (DG.ex rfl trivial)
theorem w10_v (c0 : Rows) (c1 : Rows) (c2 : Int) (c3 : Row) (c4 : Row) (hc0 : Brs c0) (hc1 : Brs c1) (hc4 : Br c4) (ec2 : c2 = rLen c1) (x0 : Int) (h0 : True) : DV (fun k => iter (s10 k c0 c1 c2 c3 c4) k ((fun (x : Int) (i : Int) => (x, i)) x0 0)) (w10 c0 c1 c3 c4 x0) Pt := by
  subst ec2; refine DV.walk (fun (x : Int) (i : Int) => (x, i)) hc1.1 (p10 c0 c3 c4) z10 (fun (i : Int) (x : Int) => True) Pt (fun i x hp hi hI => ?_) (fun i x hie hi hI => ?_) x0 h0
  · have hlt := lt_of hc1.1 hi
    have hle := Int.le_of_lt hlt
    have hin := iIn_lt hp hi
    exact DG.tt hi (DG.tt hin (DG.bnd (affinity_near.val _ _ _ _ (Br.eta (Brs.at hc1 _) _) (Br.eta hc4 _) hc0) (fun hr0 => (DG.test (fun h_2 => (DG.inl rfl trivial)) (fun h_2 => (DG.test (fun h_3 => (DG.bnd (affinity_limit.val _) (fun hr1 => (DG.inl rfl trivial)))) (fun h_3 => (DG.bnd (affinity_limit.val _) (fun hr2 => (DG.inl rfl trivial))))))))))
  · have hle := eq_le hc1.1 hie
    exact DG.ff hi (DG.ex rfl trivial)
theorem val (a0 : Row) (a1 : Row) (a2 : Row) (ha0 : Br a0) (ha1 : Br a1) (ha2 : Br a2) : DV (fun k => (f k a0 a1 a2).eval) (v a0 a1 a2) Pt := (DG.bnd (affinity_others.val _ _ (Br.eta ha0 _) (Br.eta ha1 _)) (fun hr0 => (DG.bnd (affinity_Preference.w4_v _ _ _ _ _ (Br.sl ha1 _) (Br.eta ha2 _) rfl _ trivial) (fun hr1 => (DG.bnd (affinity_Preference.w10_v _ _ _ _ _ hr0 (Br.sl ha1 _) (Br.eta ha2 _) rfl _ trivial) (fun hr2 => (DG.bnd (affinity_limit.val _) (fun hr3 => (DG.ret trivial)))))))))
end affinity_Preference
namespace affinity_PodFits
def p4 (c0 : Rows) (c3 : Row) (c4 : Row) (i : Int) (q : Row) (x : Int) : (Int) ⊕ (Int ⊕ Int) := (bif (bNot (rBool q 0)) then (.inl x) else (let r0 := (affinity_Domain.v (et 46 c4) (rStr q 3)); (let r1 := (affinity_near.v (et 65 q) (et 40 c3) (et 46 c4) c0); (bif (bIte (rBool q 1) r1.1 false) then (.inl 9) else (bif (rBool q 1) then (bif (rBool q 1) then (.inl x) else (let r2 := bif (bNot (bIte (bNot r0.2) true r1.2)) then (label_Matches.v (rSl q 2) (rSl c3 9)) else default; (bif (bIte (bIte (bNot r0.2) true r1.2) true (bNot r2)) then (.inr (.inl 8)) else (.inl x)))) else (bif r1.1 then (.inl x) else (let r3 := bif (bNot (bIte (bNot r0.2) true r1.2)) then (label_Matches.v (rSl q 2) (rSl c3 9)) else default; (bif (bIte (bIte (bNot r0.2) true r1.2) true (bNot r3)) then (.inr (.inl 8)) else (.inl x)))))))))
def z4 (x : Int) : Int ⊕ Int := (.inr x)
def w4 (c0 : Rows) (c1 : Rows) (c3 : Row) (c4 : Row) (x0 : Int) : Int ⊕ Int := walk (p4 c0 c3 c4) z4 c1 0 x0
def p20 (c5 : Row) (c6 : Row) (c7 : Row) (i : Int) (q : Row) (x : Int) : (Int) ⊕ (Int) := (let r0 := bif (bIte (rBool q 0) (rBool q 1) false) then (affinity_selects.v (et 65 q) (rStr c7 1) (et 40 c5)) else default; (let r1 := bif (bIte (bIte (rBool q 0) (rBool q 1) false) r0 false) then (affinity_together.v (et 46 c6) (eo 46 c7 32) (rStr q 3)) else default; (bif (bIte (bIte (bIte (rBool q 0) (rBool q 1) false) r0 false) r1 false) then (.inl 9) else (.inl x))))
def z20 (x : Int) : Int := x
def w20 (c3 : Rows) (c5 : Row) (c6 : Row) (c7 : Row) (x0 : Int) : Int := walk (p20 c5 c6 c7) z20 c3 0 x0
def p17 (c2 : Row) (c3 : Row) (i : Int) (q : Row) (x : Int) : (Int) ⊕ (Int) := (let r0 := (affinity_PodFits.w20 (rSl q 20) (et 40 c2) (et 46 c3) (et 86 q) x); (.inl r0))
def z17 (x : Int) : Int := x
def w17 (c0 : Rows) (c2 : Row) (c3 : Row) (x0 : Int) : Int := walk (p17 c2 c3) z17 c0 0 x0
def v (a0 : Row) (a1 : Row) (a2 : Row) : Int := (let r0 := (affinity_others.v (et 58 a0) (et 40 a1)); (Sum.elim (fun r1 => r1) (fun r2 => (let r3 := (affinity_PodFits.w17 r0 (et 40 a1) (et 46 a2) r2); r3)) (affinity_PodFits.w4 r0 (rSl a1 20) (et 40 a1) (et 46 a2) 0)))
theorem w4_v (c0 : Rows) (c1 : Rows) (c2 : Int) (c3 : Row) (c4 : Row) (hc0 : Brs c0) (hc1 : Brs c1) (hc3 : Br c3) (hc4 : Br c4) (ec2 : c2 = rLen c1) (x0 : Int) (h0 : True) : DV (fun k => iter (s4 k c0 c1 c2 c3 c4) k ((fun (x : Int) (i : Int) => (x, i)) x0 0)) (w4 c0 c1 c3 c4 x0) (Ps Pt Pt) := by
  subst ec2; refine DV.walk (fun (x : Int) (i : Int) => (x, i)) hc1.1 (p4 c0 c3 c4) z4 (fun (i : Int) (x : Int) => True) (Ps Pt Pt) (fun i x hp hi hI => ?_) (fun i x hie hi hI => ?_) x0 h0
  · have hlt := lt_of hc1.1 hi
    have hle := Int.le_of_lt hlt
    have hin := iIn_lt hp hi
    exact DG.tt hi (DG.tt hin (DG.test (fun h_1 => (DG.inl rfl trivial)) (fun h_1 => (DG.bnd (affinity_Domain.val _ _ (Br.eta hc4 _)) (fun hr0 => (DG.bnd (affinity_near.val _ _ _ _ (Br.eta (Brs.at hc1 _) _) (Br.eta hc4 _) hc0) (fun hr1 => (DG.test (fun h_4 => (DG.inl rfl trivial)) (fun h_4 => (DG.test (fun h_5 => (DG.test (fun h_6 => (DG.inl rfl trivial)) (fun h_6 => (DG.opt (fun h_7 => (label_Matches.val _ _ (Br.sl (Brs.at hc1 _) _) (Br.sl hc3 _))) (fun _ => trivial) (fun hr2 => (DG.test (fun h_8 => (DG.inr rfl trivial)) (fun h_8 => (DG.inl rfl trivial)))))))) (fun h_5 => (DG.test (fun h_9 => (DG.inl rfl trivial)) (fun h_9 => (DG.opt (fun h_10 => (label_Matches.val _ _ (Br.sl (Brs.at hc1 _) _) (Br.sl hc3 _))) (fun _ => trivial) (fun hr3 => (DG.test (fun h_11 => (DG.inr rfl trivial)) (fun h_11 => (DG.inl rfl trivial))))))))))))))))))
  · have hle := eq_le hc1.1 hie
    exact DG.ff hi (DG.ex rfl trivial)
theorem w20_v (c0 : Rows) (c1 : Int) (c2 : Int) (c3 : Rows) (c4 : Int) (c5 : Row) (c6 : Row) (c7 : Row) (hc3 : Brs c3) (hc5 : Br c5) (hc6 : Br c6) (hc7 : Br c7) (ec4 : c4 = rLen c3) (x0 : Int) (h0 : True) : DV (fun k => iter (s20 k c0 c1 c2 c3 c4 c5 c6 c7) k ((fun (x : Int) (i : Int) => (x, i)) x0 0)) (w20 c3 c5 c6 c7 x0) Pt := by
  subst ec4; refine DV.walk (fun (x : Int) (i : Int) => (x, i)) hc3.1 (p20 c5 c6 c7) z20 (fun (i : Int) (x : Int) => True) Pt (fun i x hp hi hI => ?_) (fun i x hie hi hI => ?_) x0 h0
  · have hlt := lt_of hc3.1 hi
    have hle := Int.le_of_lt hlt
    have hin := iIn_lt hp hi
    exact DG.tt hi (DG.tt hin (DG.opt (fun h_1 => (affinity_selects.val _ _ _ (Br.eta (Brs.at hc3 _) _) (Br.eta hc5 _))) (fun _ => trivial) (fun hr0 => (DG.opt (fun h_2 => (affinity_together.val _ _ _ (Br.eta hc6 _) (br_etaL hc7 _ _))) (fun _ => trivial) (fun hr1 => (DG.test (fun h_3 => (DG.inl rfl trivial)) (fun h_3 => (DG.inl rfl trivial))))))))
  · have hle := eq_le hc3.1 hie
    exact DG.ff hi (DG.ex rfl trivial)
theorem w17_v (c0 : Rows) (c1 : Int) (c2 : Row) (c3 : Row) (hc0 : Brs c0) (hc2 : Br c2) (hc3 : Br c3) (ec1 : c1 = rLen c0) (x0 : Int) (h0 : True) : DV (fun k => iter (s17 k c0 c1 c2 c3) k ((fun (x : Int) (i : Int) => (x, i)) x0 0)) (w17 c0 c2 c3 x0) Pt := by
  subst ec1; refine DV.walk (fun (x : Int) (i : Int) => (x, i)) hc0.1 (p17 c2 c3) z17 (fun (i : Int) (x : Int) => True) Pt (fun i x hp hi hI => ?_) (fun i x hie hi hI => ?_) x0 h0
  · have hlt := lt_of hc0.1 hi
    have hle := Int.le_of_lt hlt
    have hin := iIn_lt hp hi
    exact DG.tt hi (DG.tt hin (DG.bnd (affinity_PodFits.w20_v _ _ _ _ _ _ _ _ (Br.sl (Brs.at hc0 _) _) (Br.eta hc2 _) (Br.eta hc3 _) (Br.eta (Brs.at hc0 _) _) rfl _ trivial) (fun hr0 => (DG.inl rfl trivial))))
  · have hle := eq_le hc0.1 hie
    exact DG.ff hi (DG.ex rfl trivial)
theorem val (a0 : Row) (a1 : Row) (a2 : Row) (ha0 : Br a0) (ha1 : Br a1) (ha2 : Br a2) : DV (fun k => (f k a0 a1 a2).eval) (v a0 a1 a2) Pt := (DG.bnd (affinity_others.val _ _ (Br.eta ha0 _) (Br.eta ha1 _)) (fun hr0 => (DG.cas (affinity_PodFits.w4_v _ _ _ _ _ hr0 (Br.sl ha1 _) (Br.eta ha1 _) (Br.eta ha2 _) rfl _ trivial) (fun r1 hr1 => (DG.ret trivial)) (fun r2 hr2 => (DG.bnd (affinity_PodFits.w17_v _ _ _ _ hr0 (Br.eta ha1 _) (Br.eta ha2 _) rfl _ trivial) (fun hr3 => (DG.ret trivial)))))))
end affinity_PodFits
namespace law36_node
def v (a0 : ByteArray) (a1 : ByteArray) : Row := [.str (bs [78, 111, 100, 101]), .str ByteArray.empty, .str a0, .int .i64 0, .int .i64 0, .int .i64 0, .int .i64 0, .bool false, .int .i64 0, .slice 105 [[.str (bs [122, 111, 110, 101]), .str a1]] .open, .slice 107 [] .open, .slice 9 [] .open, .slice 109 [] .open, .int .i64 0, .int .i64 0, .int .i64 0, .int .i64 0, .bool false, .slice 167 [] .open, .bool false, .int .i64 0, .bool false, .bool false, .slice 169 [] .open]
theorem val (a0 : ByteArray) (a1 : ByteArray) (ha0 : Sz 1048576 a0) (ha1 : Sz 1048576 a1) : DV (fun k => (f k a0 a1).eval) (v a0 a1) Br := (DG.ret (br_cons (brc_str (Nat.le_trans (@Nat.le_of_ble_eq_true _ 4 rfl) (Nat.le_of_ble_eq_true rfl))) (br_cons (brc_str (Nat.le_trans (@Nat.le_of_ble_eq_true _ 0 rfl) (Nat.le_of_ble_eq_true rfl))) (br_cons (brc_str ha0) (br_cons brc_int (br_cons brc_int (br_cons brc_int (br_cons brc_int (br_cons brc_bool (br_cons brc_int (br_cons (brc_slice (brs_of (Nat.le_of_ble_eq_true rfl) (all_cons (br_cons (brc_str (Nat.le_trans (@Nat.le_of_ble_eq_true _ 4 rfl) (Nat.le_of_ble_eq_true rfl))) (br_cons (brc_str ha1) br_nil)) all_nil))) (br_cons (brc_slice (brs_of (Nat.le_of_ble_eq_true rfl) all_nil)) (br_cons (brc_slice (brs_of (Nat.le_of_ble_eq_true rfl) all_nil)) (br_cons (brc_slice (brs_of (Nat.le_of_ble_eq_true rfl) all_nil)) (br_cons brc_int (br_cons brc_int (br_cons brc_int (br_cons brc_int (br_cons brc_bool (br_cons (brc_slice (brs_of (Nat.le_of_ble_eq_true rfl) all_nil)) (br_cons brc_bool (br_cons brc_int (br_cons brc_bool (br_cons brc_bool (br_cons (brc_slice (brs_of (Nat.le_of_ble_eq_true rfl) all_nil)) br_nil)))))))))))))))))))))))))
end law36_node
namespace law36_pod
def v (a0 : ByteArray) (a1 : ByteArray) (a2 : ByteArray) : Row := [.str (bs [80, 111, 100]), .str (bs [110]), .str a0, .int .i64 0, .int .i64 0, .int .i64 0, .int .i64 0, .bool false, .int .i64 0, .slice 105 [[.str (bs [97, 112, 112]), .str a1]] .open, .slice 107 [] .open, .slice 9 [] .open, .slice 109 [] .open, .str a2, .int .i64 0, .int .i64 0, .int .i64 0, .slice 137 [] .open, .slice 94 [] .open, .slice 68 [] .open, .slice 65 [] .open, .slice 143 [] .open, .slice 145 [] .open, .int .i64 1, .bool false, .int .i64 0, .int .i64 0, .int .i64 0, .slice 147 [] .open, .int .i64 0, .str ByteArray.empty, .str ByteArray.empty]
theorem val (a0 : ByteArray) (a1 : ByteArray) (a2 : ByteArray) (ha0 : Sz 1048576 a0) (ha1 : Sz 1048576 a1) (ha2 : Sz 1048576 a2) : DV (fun k => (f k a0 a1 a2).eval) (v a0 a1 a2) Br := (DG.ret (br_cons (brc_str (Nat.le_trans (@Nat.le_of_ble_eq_true _ 3 rfl) (Nat.le_of_ble_eq_true rfl))) (br_cons (brc_str (Nat.le_trans (@Nat.le_of_ble_eq_true _ 1 rfl) (Nat.le_of_ble_eq_true rfl))) (br_cons (brc_str ha0) (br_cons brc_int (br_cons brc_int (br_cons brc_int (br_cons brc_int (br_cons brc_bool (br_cons brc_int (br_cons (brc_slice (brs_of (Nat.le_of_ble_eq_true rfl) (all_cons (br_cons (brc_str (Nat.le_trans (@Nat.le_of_ble_eq_true _ 3 rfl) (Nat.le_of_ble_eq_true rfl))) (br_cons (brc_str ha1) br_nil)) all_nil))) (br_cons (brc_slice (brs_of (Nat.le_of_ble_eq_true rfl) all_nil)) (br_cons (brc_slice (brs_of (Nat.le_of_ble_eq_true rfl) all_nil)) (br_cons (brc_slice (brs_of (Nat.le_of_ble_eq_true rfl) all_nil)) (br_cons (brc_str ha2) (br_cons brc_int (br_cons brc_int (br_cons brc_int (br_cons (brc_slice (brs_of (Nat.le_of_ble_eq_true rfl) all_nil)) (br_cons (brc_slice (brs_of (Nat.le_of_ble_eq_true rfl) all_nil)) (br_cons (brc_slice (brs_of (Nat.le_of_ble_eq_true rfl) all_nil)) (br_cons (brc_slice (brs_of (Nat.le_of_ble_eq_true rfl) all_nil)) (br_cons (brc_slice (brs_of (Nat.le_of_ble_eq_true rfl) all_nil)) (br_cons (brc_slice (brs_of (Nat.le_of_ble_eq_true rfl) all_nil)) (br_cons brc_int (br_cons brc_bool (br_cons brc_int (br_cons brc_int (br_cons brc_int (br_cons (brc_slice (brs_of (Nat.le_of_ble_eq_true rfl) all_nil)) (br_cons brc_int (br_cons (brc_str (Nat.le_trans (@Nat.le_of_ble_eq_true _ 0 rfl) (Nat.le_of_ble_eq_true rfl))) (br_cons (brc_str (Nat.le_trans (@Nat.le_of_ble_eq_true _ 0 rfl) (Nat.le_of_ble_eq_true rfl))) br_nil)))))))))))))))))))))))))))))))))
end law36_pod
namespace law36_term
def v (a0 : ByteArray) (a1 : Bool) : Row := [.bool true, .bool a1, .slice 94 [[.str (bs [97, 112, 112]), .int .i64 1, .slice 9 [[.str a0]] .open]] .open, .str (bs [122, 111, 110, 101]), .int .i64 7]
theorem val (a0 : ByteArray) (a1 : Bool) (ha0 : Sz 1048576 a0) : DV (fun k => (f k a0 a1).eval) (v a0 a1) Br := (DG.ret (br_cons brc_bool (br_cons brc_bool (br_cons (brc_slice (brs_of (Nat.le_of_ble_eq_true rfl) (all_cons (br_cons (brc_str (Nat.le_trans (@Nat.le_of_ble_eq_true _ 3 rfl) (Nat.le_of_ble_eq_true rfl))) (br_cons brc_int (br_cons (brc_slice (brs_of (Nat.le_of_ble_eq_true rfl) (all_cons (br_cons (brc_str ha0) br_nil) all_nil))) br_nil))) all_nil))) (br_cons (brc_str (Nat.le_trans (@Nat.le_of_ble_eq_true _ 4 rfl) (Nat.le_of_ble_eq_true rfl))) (br_cons brc_int br_nil))))))
end law36_term
namespace law36_lives
def v  : Bool := (let r0 := (law36_node.v (bs [110, 49]) (bs [97])); (let r1 := (law36_node.v (bs [110, 50]) (bs [98])); (let r2 := (law36_pod.v (bs [113]) (bs [100, 98]) (bs [110, 49])); (let r3 := (law36_pod.v (bs [112]) (bs [119, 101, 98]) ByteArray.empty); (let r4 := (law36_term.v (bs [100, 98]) false); (let r5 := (law36_pod.v (bs [112]) (bs [119, 101, 98]) ByteArray.empty); (let r6 := (law36_term.v (bs [100, 98]) true); (let r7 := (law36_pod.v (bs [112]) (bs [119, 101, 98]) ByteArray.empty); (let r8 := (law36_term.v (bs [119, 101, 98]) false); (let r9 := (law36_term.v (bs [100, 98]) false); (let r10 := (affinity_Domain.v (et 46 (rAt [et 46 r0, et 46 r1] 1)) (bs [122, 111, 110, 101])); (let r11 := (affinity_PodFits.v [.slice 46 [et 46 r0, et 46 r1] .open, .slice 40 [et 40 r2] .open, .slice 80 [] .open, .int .i64 0] [.str (rStr r3 0), .str (rStr r3 1), .str (rStr r3 2), .int .i64 (rInt r3 3), .int .i64 (rInt r3 4), .int .i64 (rInt r3 5), .int .i64 (rInt r3 6), .bool (rBool r3 7), .int .i64 (rInt r3 8), .slice 105 (rSl r3 9) .open, .slice 107 (rSl r3 10) .open, .slice 9 (rSl r3 11) .open, .slice 109 (rSl r3 12) .open, .str (rStr r3 13), .int .i64 (rInt r3 14), .int .i64 (rInt r3 15), .int .i64 (rInt r3 16), .slice 137 (rSl r3 17) .open, .slice 94 (rSl r3 18) .open, .slice 68 (rSl r3 19) .open, .slice 65 [et 65 r4] .open, .slice 143 (rSl r3 21) .open, .slice 145 (rSl r3 22) .open, .int .i64 (rInt r3 23), .bool (rBool r3 24), .int .i64 (rInt r3 25), .int .i64 (rInt r3 26), .int .i64 (rInt r3 27), .slice 147 (rSl r3 28) .open, .int .i64 (rInt r3 29), .str (rStr r3 30), .str (rStr r3 31)] (et 46 (rAt [et 46 r0, et 46 r1] 0))); (let r12 := bif (iEq r11 0) then (affinity_PodFits.v [.slice 46 [et 46 r0, et 46 r1] .open, .slice 40 [et 40 r2] .open, .slice 80 [] .open, .int .i64 0] [.str (rStr r3 0), .str (rStr r3 1), .str (rStr r3 2), .int .i64 (rInt r3 3), .int .i64 (rInt r3 4), .int .i64 (rInt r3 5), .int .i64 (rInt r3 6), .bool (rBool r3 7), .int .i64 (rInt r3 8), .slice 105 (rSl r3 9) .open, .slice 107 (rSl r3 10) .open, .slice 9 (rSl r3 11) .open, .slice 109 (rSl r3 12) .open, .str (rStr r3 13), .int .i64 (rInt r3 14), .int .i64 (rInt r3 15), .int .i64 (rInt r3 16), .slice 137 (rSl r3 17) .open, .slice 94 (rSl r3 18) .open, .slice 68 (rSl r3 19) .open, .slice 65 [et 65 r4] .open, .slice 143 (rSl r3 21) .open, .slice 145 (rSl r3 22) .open, .int .i64 (rInt r3 23), .bool (rBool r3 24), .int .i64 (rInt r3 25), .int .i64 (rInt r3 26), .int .i64 (rInt r3 27), .slice 147 (rSl r3 28) .open, .int .i64 (rInt r3 29), .str (rStr r3 30), .str (rStr r3 31)] (et 46 (rAt [et 46 r0, et 46 r1] 1))) else default; (let r13 := bif (bIte (iEq r11 0) (iEq r12 8) false) then (affinity_PodFits.v [.slice 46 [et 46 r0, et 46 r1] .open, .slice 40 [et 40 r2] .open, .slice 80 [] .open, .int .i64 0] [.str (rStr r5 0), .str (rStr r5 1), .str (rStr r5 2), .int .i64 (rInt r5 3), .int .i64 (rInt r5 4), .int .i64 (rInt r5 5), .int .i64 (rInt r5 6), .bool (rBool r5 7), .int .i64 (rInt r5 8), .slice 105 (rSl r5 9) .open, .slice 107 (rSl r5 10) .open, .slice 9 (rSl r5 11) .open, .slice 109 (rSl r5 12) .open, .str (rStr r5 13), .int .i64 (rInt r5 14), .int .i64 (rInt r5 15), .int .i64 (rInt r5 16), .slice 137 (rSl r5 17) .open, .slice 94 (rSl r5 18) .open, .slice 68 (rSl r5 19) .open, .slice 65 [et 65 r6] .open, .slice 143 (rSl r5 21) .open, .slice 145 (rSl r5 22) .open, .int .i64 (rInt r5 23), .bool (rBool r5 24), .int .i64 (rInt r5 25), .int .i64 (rInt r5 26), .int .i64 (rInt r5 27), .slice 147 (rSl r5 28) .open, .int .i64 (rInt r5 29), .str (rStr r5 30), .str (rStr r5 31)] (et 46 (rAt [et 46 r0, et 46 r1] 0))) else default; (let r14 := bif (bIte (bIte (iEq r11 0) (iEq r12 8) false) (iEq r13 9) false) then (affinity_PodFits.v [.slice 46 [et 46 r0, et 46 r1] .open, .slice 40 [et 40 r2] .open, .slice 80 [] .open, .int .i64 0] [.str (rStr r5 0), .str (rStr r5 1), .str (rStr r5 2), .int .i64 (rInt r5 3), .int .i64 (rInt r5 4), .int .i64 (rInt r5 5), .int .i64 (rInt r5 6), .bool (rBool r5 7), .int .i64 (rInt r5 8), .slice 105 (rSl r5 9) .open, .slice 107 (rSl r5 10) .open, .slice 9 (rSl r5 11) .open, .slice 109 (rSl r5 12) .open, .str (rStr r5 13), .int .i64 (rInt r5 14), .int .i64 (rInt r5 15), .int .i64 (rInt r5 16), .slice 137 (rSl r5 17) .open, .slice 94 (rSl r5 18) .open, .slice 68 (rSl r5 19) .open, .slice 65 [et 65 r6] .open, .slice 143 (rSl r5 21) .open, .slice 145 (rSl r5 22) .open, .int .i64 (rInt r5 23), .bool (rBool r5 24), .int .i64 (rInt r5 25), .int .i64 (rInt r5 26), .int .i64 (rInt r5 27), .slice 147 (rSl r5 28) .open, .int .i64 (rInt r5 29), .str (rStr r5 30), .str (rStr r5 31)] (et 46 (rAt [et 46 r0, et 46 r1] 1))) else default; (let r15 := bif (bIte (bIte (bIte (iEq r11 0) (iEq r12 8) false) (iEq r13 9) false) (iEq r14 0) false) then (affinity_PodFits.v [.slice 46 [et 46 r0, et 46 r1] .open, .slice 40 [et 40 r2] .open, .slice 80 [] .open, .int .i64 0] [.str (rStr r7 0), .str (rStr r7 1), .str (rStr r7 2), .int .i64 (rInt r7 3), .int .i64 (rInt r7 4), .int .i64 (rInt r7 5), .int .i64 (rInt r7 6), .bool (rBool r7 7), .int .i64 (rInt r7 8), .slice 105 (rSl r7 9) .open, .slice 107 (rSl r7 10) .open, .slice 9 (rSl r7 11) .open, .slice 109 (rSl r7 12) .open, .str (rStr r7 13), .int .i64 (rInt r7 14), .int .i64 (rInt r7 15), .int .i64 (rInt r7 16), .slice 137 (rSl r7 17) .open, .slice 94 (rSl r7 18) .open, .slice 68 (rSl r7 19) .open, .slice 65 [et 65 r8] .open, .slice 143 (rSl r7 21) .open, .slice 145 (rSl r7 22) .open, .int .i64 (rInt r7 23), .bool (rBool r7 24), .int .i64 (rInt r7 25), .int .i64 (rInt r7 26), .int .i64 (rInt r7 27), .slice 147 (rSl r7 28) .open, .int .i64 (rInt r7 29), .str (rStr r7 30), .str (rStr r7 31)] (et 46 (rAt [et 46 r0, et 46 r1] 1))) else default; (let r16 := bif (bIte (bIte (bIte (bIte (iEq r11 0) (iEq r12 8) false) (iEq r13 9) false) (iEq r14 0) false) (iEq r15 0) false) then (affinity_Preference.v [.slice 46 [et 46 r0, et 46 r1] .open, .slice 40 [et 40 r2] .open, .slice 80 [] .open, .int .i64 0] [.str (rStr r3 0), .str (rStr r3 1), .str (rStr r3 2), .int .i64 (rInt r3 3), .int .i64 (rInt r3 4), .int .i64 (rInt r3 5), .int .i64 (rInt r3 6), .bool (rBool r3 7), .int .i64 (rInt r3 8), .slice 105 (rSl r3 9) .open, .slice 107 (rSl r3 10) .open, .slice 9 (rSl r3 11) .open, .slice 109 (rSl r3 12) .open, .str (rStr r3 13), .int .i64 (rInt r3 14), .int .i64 (rInt r3 15), .int .i64 (rInt r3 16), .slice 137 (rSl r3 17) .open, .slice 94 (rSl r3 18) .open, .slice 68 (rSl r3 19) .open, .slice 65 [[.bool false, .bool (rBool r9 1), .slice 94 (rSl r9 2) .open, .str (rStr r9 3), .int .i64 (rInt r9 4)]] .open, .slice 143 (rSl r3 21) .open, .slice 145 (rSl r3 22) .open, .int .i64 (rInt r3 23), .bool (rBool r3 24), .int .i64 (rInt r3 25), .int .i64 (rInt r3 26), .int .i64 (rInt r3 27), .slice 147 (rSl r3 28) .open, .int .i64 (rInt r3 29), .str (rStr r3 30), .str (rStr r3 31)] (et 46 (rAt [et 46 r0, et 46 r1] 0))) else default; (let r17 := bif (bIte (bIte (bIte (bIte (bIte (bIte (bIte (iEq r11 0) (iEq r12 8) false) (iEq r13 9) false) (iEq r14 0) false) (iEq r15 0) false) (iEq r16 7) false) (sEq r10.1 (bs [98])) false) r10.2 false) then (affinity_NodeFits.v [.str (rStr r3 13), .int .i64 (rInt r3 14), .int .i64 (rInt r3 15), .int .i64 (rInt r3 16), .slice 137 (rSl r3 17) .open, .slice 94 (rSl r3 18) .open, .slice 68 (rSl r3 19) .open, .slice 65 [et 65 r4] .open, .slice 143 (rSl r3 21) .open, .slice 145 (rSl r3 22) .open] (et 46 (rAt [et 46 r0, et 46 r1] 0))) else default; (bIte (bIte (bIte (bIte (bIte (bIte (bIte (bIte (iEq r11 0) (iEq r12 8) false) (iEq r13 9) false) (iEq r14 0) false) (iEq r15 0) false) (iEq r16 7) false) (sEq r10.1 (bs [98])) false) r10.2 false) r17 false)))))))))))))))))))
theorem val  : DV (fun k => (f k ).eval) (v ) Pt := (DG.bnd (law36_node.val _ _ (Nat.le_trans (@Nat.le_of_ble_eq_true _ 2 rfl) (Nat.le_of_ble_eq_true rfl)) (Nat.le_trans (@Nat.le_of_ble_eq_true _ 1 rfl) (Nat.le_of_ble_eq_true rfl))) (fun hr0 => (DG.bnd (law36_node.val _ _ (Nat.le_trans (@Nat.le_of_ble_eq_true _ 2 rfl) (Nat.le_of_ble_eq_true rfl)) (Nat.le_trans (@Nat.le_of_ble_eq_true _ 1 rfl) (Nat.le_of_ble_eq_true rfl))) (fun hr1 => (DG.bnd (law36_pod.val _ _ _ (Nat.le_trans (@Nat.le_of_ble_eq_true _ 1 rfl) (Nat.le_of_ble_eq_true rfl)) (Nat.le_trans (@Nat.le_of_ble_eq_true _ 2 rfl) (Nat.le_of_ble_eq_true rfl)) (Nat.le_trans (@Nat.le_of_ble_eq_true _ 2 rfl) (Nat.le_of_ble_eq_true rfl))) (fun hr2 => (DG.bnd (law36_pod.val _ _ _ (Nat.le_trans (@Nat.le_of_ble_eq_true _ 1 rfl) (Nat.le_of_ble_eq_true rfl)) (Nat.le_trans (@Nat.le_of_ble_eq_true _ 3 rfl) (Nat.le_of_ble_eq_true rfl)) (Nat.le_trans (@Nat.le_of_ble_eq_true _ 0 rfl) (Nat.le_of_ble_eq_true rfl))) (fun hr3 => (DG.bnd (law36_term.val _ _ (Nat.le_trans (@Nat.le_of_ble_eq_true _ 2 rfl) (Nat.le_of_ble_eq_true rfl))) (fun hr4 => (DG.bnd (law36_pod.val _ _ _ (Nat.le_trans (@Nat.le_of_ble_eq_true _ 1 rfl) (Nat.le_of_ble_eq_true rfl)) (Nat.le_trans (@Nat.le_of_ble_eq_true _ 3 rfl) (Nat.le_of_ble_eq_true rfl)) (Nat.le_trans (@Nat.le_of_ble_eq_true _ 0 rfl) (Nat.le_of_ble_eq_true rfl))) (fun hr5 => (DG.bnd (law36_term.val _ _ (Nat.le_trans (@Nat.le_of_ble_eq_true _ 2 rfl) (Nat.le_of_ble_eq_true rfl))) (fun hr6 => (DG.bnd (law36_pod.val _ _ _ (Nat.le_trans (@Nat.le_of_ble_eq_true _ 1 rfl) (Nat.le_of_ble_eq_true rfl)) (Nat.le_trans (@Nat.le_of_ble_eq_true _ 3 rfl) (Nat.le_of_ble_eq_true rfl)) (Nat.le_trans (@Nat.le_of_ble_eq_true _ 0 rfl) (Nat.le_of_ble_eq_true rfl))) (fun hr7 => (DG.bnd (law36_term.val _ _ (Nat.le_trans (@Nat.le_of_ble_eq_true _ 3 rfl) (Nat.le_of_ble_eq_true rfl))) (fun hr8 => (DG.bnd (law36_term.val _ _ (Nat.le_trans (@Nat.le_of_ble_eq_true _ 2 rfl) (Nat.le_of_ble_eq_true rfl))) (fun hr9 => (DG.tt (decide_eq_true ⟨by decide, by decide⟩) (DG.bnd (affinity_Domain.val _ _ (Br.eta (Brs.at (brs_of (Nat.le_of_ble_eq_true rfl) (all_cons (Br.eta hr0 _) (all_cons (Br.eta hr1 _) all_nil))) _) _)) (fun hr10 => (DG.tt (decide_eq_true ⟨by decide, by decide⟩) (DG.bnd (affinity_PodFits.val _ _ _ (br_cons (brc_slice (brs_of (Nat.le_of_ble_eq_true rfl) (all_cons (Br.eta hr0 _) (all_cons (Br.eta hr1 _) all_nil)))) (br_cons (brc_slice (brs_of (Nat.le_of_ble_eq_true rfl) (all_cons (Br.eta hr2 _) all_nil))) (br_cons (brc_slice (brs_of (Nat.le_of_ble_eq_true rfl) all_nil)) (br_cons brc_int br_nil)))) (br_cons (brc_str (Br.str hr3 _)) (br_cons (brc_str (Br.str hr3 _)) (br_cons (brc_str (Br.str hr3 _)) (br_cons brc_int (br_cons brc_int (br_cons brc_int (br_cons brc_int (br_cons brc_bool (br_cons brc_int (br_cons (brc_slice (Br.sl hr3 _)) (br_cons (brc_slice (Br.sl hr3 _)) (br_cons (brc_slice (Br.sl hr3 _)) (br_cons (brc_slice (Br.sl hr3 _)) (br_cons (brc_str (Br.str hr3 _)) (br_cons brc_int (br_cons brc_int (br_cons brc_int (br_cons (brc_slice (Br.sl hr3 _)) (br_cons (brc_slice (Br.sl hr3 _)) (br_cons (brc_slice (Br.sl hr3 _)) (br_cons (brc_slice (brs_of (Nat.le_of_ble_eq_true rfl) (all_cons (Br.eta hr4 _) all_nil))) (br_cons (brc_slice (Br.sl hr3 _)) (br_cons (brc_slice (Br.sl hr3 _)) (br_cons brc_int (br_cons brc_bool (br_cons brc_int (br_cons brc_int (br_cons brc_int (br_cons (brc_slice (Br.sl hr3 _)) (br_cons brc_int (br_cons (brc_str (Br.str hr3 _)) (br_cons (brc_str (Br.str hr3 _)) br_nil)))))))))))))))))))))))))))))))) (Br.eta (Brs.at (brs_of (Nat.le_of_ble_eq_true rfl) (all_cons (Br.eta hr0 _) (all_cons (Br.eta hr1 _) all_nil))) _) _)) (fun hr11 => (DG.tt (bimp_ (decide_eq_true ⟨by decide, by decide⟩)) (DG.opt (fun h_13 => (affinity_PodFits.val _ _ _ (br_cons (brc_slice (brs_of (Nat.le_of_ble_eq_true rfl) (all_cons (Br.eta hr0 _) (all_cons (Br.eta hr1 _) all_nil)))) (br_cons (brc_slice (brs_of (Nat.le_of_ble_eq_true rfl) (all_cons (Br.eta hr2 _) all_nil))) (br_cons (brc_slice (brs_of (Nat.le_of_ble_eq_true rfl) all_nil)) (br_cons brc_int br_nil)))) (br_cons (brc_str (Br.str hr3 _)) (br_cons (brc_str (Br.str hr3 _)) (br_cons (brc_str (Br.str hr3 _)) (br_cons brc_int (br_cons brc_int (br_cons brc_int (br_cons brc_int (br_cons brc_bool (br_cons brc_int (br_cons (brc_slice (Br.sl hr3 _)) (br_cons (brc_slice (Br.sl hr3 _)) (br_cons (brc_slice (Br.sl hr3 _)) (br_cons (brc_slice (Br.sl hr3 _)) (br_cons (brc_str (Br.str hr3 _)) (br_cons brc_int (br_cons brc_int (br_cons brc_int (br_cons (brc_slice (Br.sl hr3 _)) (br_cons (brc_slice (Br.sl hr3 _)) (br_cons (brc_slice (Br.sl hr3 _)) (br_cons (brc_slice (brs_of (Nat.le_of_ble_eq_true rfl) (all_cons (Br.eta hr4 _) all_nil))) (br_cons (brc_slice (Br.sl hr3 _)) (br_cons (brc_slice (Br.sl hr3 _)) (br_cons brc_int (br_cons brc_bool (br_cons brc_int (br_cons brc_int (br_cons brc_int (br_cons (brc_slice (Br.sl hr3 _)) (br_cons brc_int (br_cons (brc_str (Br.str hr3 _)) (br_cons (brc_str (Br.str hr3 _)) br_nil)))))))))))))))))))))))))))))))) (Br.eta (Brs.at (brs_of (Nat.le_of_ble_eq_true rfl) (all_cons (Br.eta hr0 _) (all_cons (Br.eta hr1 _) all_nil))) _) _))) (fun _ => trivial) (fun hr12 => (DG.tt (bimp_ (decide_eq_true ⟨by decide, by decide⟩)) (DG.opt (fun h_14 => (affinity_PodFits.val _ _ _ (br_cons (brc_slice (brs_of (Nat.le_of_ble_eq_true rfl) (all_cons (Br.eta hr0 _) (all_cons (Br.eta hr1 _) all_nil)))) (br_cons (brc_slice (brs_of (Nat.le_of_ble_eq_true rfl) (all_cons (Br.eta hr2 _) all_nil))) (br_cons (brc_slice (brs_of (Nat.le_of_ble_eq_true rfl) all_nil)) (br_cons brc_int br_nil)))) (br_cons (brc_str (Br.str hr5 _)) (br_cons (brc_str (Br.str hr5 _)) (br_cons (brc_str (Br.str hr5 _)) (br_cons brc_int (br_cons brc_int (br_cons brc_int (br_cons brc_int (br_cons brc_bool (br_cons brc_int (br_cons (brc_slice (Br.sl hr5 _)) (br_cons (brc_slice (Br.sl hr5 _)) (br_cons (brc_slice (Br.sl hr5 _)) (br_cons (brc_slice (Br.sl hr5 _)) (br_cons (brc_str (Br.str hr5 _)) (br_cons brc_int (br_cons brc_int (br_cons brc_int (br_cons (brc_slice (Br.sl hr5 _)) (br_cons (brc_slice (Br.sl hr5 _)) (br_cons (brc_slice (Br.sl hr5 _)) (br_cons (brc_slice (brs_of (Nat.le_of_ble_eq_true rfl) (all_cons (Br.eta hr6 _) all_nil))) (br_cons (brc_slice (Br.sl hr5 _)) (br_cons (brc_slice (Br.sl hr5 _)) (br_cons brc_int (br_cons brc_bool (br_cons brc_int (br_cons brc_int (br_cons brc_int (br_cons (brc_slice (Br.sl hr5 _)) (br_cons brc_int (br_cons (brc_str (Br.str hr5 _)) (br_cons (brc_str (Br.str hr5 _)) br_nil)))))))))))))))))))))))))))))))) (Br.eta (Brs.at (brs_of (Nat.le_of_ble_eq_true rfl) (all_cons (Br.eta hr0 _) (all_cons (Br.eta hr1 _) all_nil))) _) _))) (fun _ => trivial) (fun hr13 => (DG.tt (bimp_ (decide_eq_true ⟨by decide, by decide⟩)) (DG.opt (fun h_15 => (affinity_PodFits.val _ _ _ (br_cons (brc_slice (brs_of (Nat.le_of_ble_eq_true rfl) (all_cons (Br.eta hr0 _) (all_cons (Br.eta hr1 _) all_nil)))) (br_cons (brc_slice (brs_of (Nat.le_of_ble_eq_true rfl) (all_cons (Br.eta hr2 _) all_nil))) (br_cons (brc_slice (brs_of (Nat.le_of_ble_eq_true rfl) all_nil)) (br_cons brc_int br_nil)))) (br_cons (brc_str (Br.str hr5 _)) (br_cons (brc_str (Br.str hr5 _)) (br_cons (brc_str (Br.str hr5 _)) (br_cons brc_int (br_cons brc_int (br_cons brc_int (br_cons brc_int (br_cons brc_bool (br_cons brc_int (br_cons (brc_slice (Br.sl hr5 _)) (br_cons (brc_slice (Br.sl hr5 _)) (br_cons (brc_slice (Br.sl hr5 _)) (br_cons (brc_slice (Br.sl hr5 _)) (br_cons (brc_str (Br.str hr5 _)) (br_cons brc_int (br_cons brc_int (br_cons brc_int (br_cons (brc_slice (Br.sl hr5 _)) (br_cons (brc_slice (Br.sl hr5 _)) (br_cons (brc_slice (Br.sl hr5 _)) (br_cons (brc_slice (brs_of (Nat.le_of_ble_eq_true rfl) (all_cons (Br.eta hr6 _) all_nil))) (br_cons (brc_slice (Br.sl hr5 _)) (br_cons (brc_slice (Br.sl hr5 _)) (br_cons brc_int (br_cons brc_bool (br_cons brc_int (br_cons brc_int (br_cons brc_int (br_cons (brc_slice (Br.sl hr5 _)) (br_cons brc_int (br_cons (brc_str (Br.str hr5 _)) (br_cons (brc_str (Br.str hr5 _)) br_nil)))))))))))))))))))))))))))))))) (Br.eta (Brs.at (brs_of (Nat.le_of_ble_eq_true rfl) (all_cons (Br.eta hr0 _) (all_cons (Br.eta hr1 _) all_nil))) _) _))) (fun _ => trivial) (fun hr14 => (DG.tt (bimp_ (decide_eq_true ⟨by decide, by decide⟩)) (DG.opt (fun h_16 => (affinity_PodFits.val _ _ _ (br_cons (brc_slice (brs_of (Nat.le_of_ble_eq_true rfl) (all_cons (Br.eta hr0 _) (all_cons (Br.eta hr1 _) all_nil)))) (br_cons (brc_slice (brs_of (Nat.le_of_ble_eq_true rfl) (all_cons (Br.eta hr2 _) all_nil))) (br_cons (brc_slice (brs_of (Nat.le_of_ble_eq_true rfl) all_nil)) (br_cons brc_int br_nil)))) (br_cons (brc_str (Br.str hr7 _)) (br_cons (brc_str (Br.str hr7 _)) (br_cons (brc_str (Br.str hr7 _)) (br_cons brc_int (br_cons brc_int (br_cons brc_int (br_cons brc_int (br_cons brc_bool (br_cons brc_int (br_cons (brc_slice (Br.sl hr7 _)) (br_cons (brc_slice (Br.sl hr7 _)) (br_cons (brc_slice (Br.sl hr7 _)) (br_cons (brc_slice (Br.sl hr7 _)) (br_cons (brc_str (Br.str hr7 _)) (br_cons brc_int (br_cons brc_int (br_cons brc_int (br_cons (brc_slice (Br.sl hr7 _)) (br_cons (brc_slice (Br.sl hr7 _)) (br_cons (brc_slice (Br.sl hr7 _)) (br_cons (brc_slice (brs_of (Nat.le_of_ble_eq_true rfl) (all_cons (Br.eta hr8 _) all_nil))) (br_cons (brc_slice (Br.sl hr7 _)) (br_cons (brc_slice (Br.sl hr7 _)) (br_cons brc_int (br_cons brc_bool (br_cons brc_int (br_cons brc_int (br_cons brc_int (br_cons (brc_slice (Br.sl hr7 _)) (br_cons brc_int (br_cons (brc_str (Br.str hr7 _)) (br_cons (brc_str (Br.str hr7 _)) br_nil)))))))))))))))))))))))))))))))) (Br.eta (Brs.at (brs_of (Nat.le_of_ble_eq_true rfl) (all_cons (Br.eta hr0 _) (all_cons (Br.eta hr1 _) all_nil))) _) _))) (fun _ => trivial) (fun hr15 => (DG.tt (bimp_ (decide_eq_true ⟨by decide, by decide⟩)) (DG.opt (fun h_17 => (affinity_Preference.val _ _ _ (br_cons (brc_slice (brs_of (Nat.le_of_ble_eq_true rfl) (all_cons (Br.eta hr0 _) (all_cons (Br.eta hr1 _) all_nil)))) (br_cons (brc_slice (brs_of (Nat.le_of_ble_eq_true rfl) (all_cons (Br.eta hr2 _) all_nil))) (br_cons (brc_slice (brs_of (Nat.le_of_ble_eq_true rfl) all_nil)) (br_cons brc_int br_nil)))) (br_cons (brc_str (Br.str hr3 _)) (br_cons (brc_str (Br.str hr3 _)) (br_cons (brc_str (Br.str hr3 _)) (br_cons brc_int (br_cons brc_int (br_cons brc_int (br_cons brc_int (br_cons brc_bool (br_cons brc_int (br_cons (brc_slice (Br.sl hr3 _)) (br_cons (brc_slice (Br.sl hr3 _)) (br_cons (brc_slice (Br.sl hr3 _)) (br_cons (brc_slice (Br.sl hr3 _)) (br_cons (brc_str (Br.str hr3 _)) (br_cons brc_int (br_cons brc_int (br_cons brc_int (br_cons (brc_slice (Br.sl hr3 _)) (br_cons (brc_slice (Br.sl hr3 _)) (br_cons (brc_slice (Br.sl hr3 _)) (br_cons (brc_slice (brs_of (Nat.le_of_ble_eq_true rfl) (all_cons (br_cons brc_bool (br_cons brc_bool (br_cons (brc_slice (Br.sl hr9 _)) (br_cons (brc_str (Br.str hr9 _)) (br_cons brc_int br_nil))))) all_nil))) (br_cons (brc_slice (Br.sl hr3 _)) (br_cons (brc_slice (Br.sl hr3 _)) (br_cons brc_int (br_cons brc_bool (br_cons brc_int (br_cons brc_int (br_cons brc_int (br_cons (brc_slice (Br.sl hr3 _)) (br_cons brc_int (br_cons (brc_str (Br.str hr3 _)) (br_cons (brc_str (Br.str hr3 _)) br_nil)))))))))))))))))))))))))))))))) (Br.eta (Brs.at (brs_of (Nat.le_of_ble_eq_true rfl) (all_cons (Br.eta hr0 _) (all_cons (Br.eta hr1 _) all_nil))) _) _))) (fun _ => trivial) (fun hr16 => (DG.tt (bimp_ (decide_eq_true ⟨by decide, by decide⟩)) (DG.opt (fun h_18 => (affinity_NodeFits.val _ _ (br_cons (brc_str (Br.str hr3 _)) (br_cons brc_int (br_cons brc_int (br_cons brc_int (br_cons (brc_slice (Br.sl hr3 _)) (br_cons (brc_slice (Br.sl hr3 _)) (br_cons (brc_slice (Br.sl hr3 _)) (br_cons (brc_slice (brs_of (Nat.le_of_ble_eq_true rfl) (all_cons (Br.eta hr4 _) all_nil))) (br_cons (brc_slice (Br.sl hr3 _)) (br_cons (brc_slice (Br.sl hr3 _)) br_nil)))))))))) (Br.eta (Brs.at (brs_of (Nat.le_of_ble_eq_true rfl) (all_cons (Br.eta hr0 _) (all_cons (Br.eta hr1 _) all_nil))) _) _))) (fun _ => trivial) (fun hr17 => (DG.ret trivial)))))))))))))))))))))))))))))))))))))))))))))
end law36_lives
namespace ref03_Get
def p2 (c1 : ByteArray) (i : Int) (q : Row) (x : Unit) : (Unit) ⊕ ((ByteArray × Bool) ⊕ Unit) := (bif (sEq (rStr q 0) c1) then (.inr (.inl (rStr q 1, true))) else (.inl ()))
def z2 (x : Unit) : (ByteArray × Bool) ⊕ Unit := (.inr ())
def w2 (c0 : Rows) (c1 : ByteArray) : (ByteArray × Bool) ⊕ Unit := walk (p2 c1) z2 c0 0 ()
def v (a0 : Rows) (a1 : ByteArray) : (ByteArray × Bool) := (Sum.elim (fun r0 => (r0.1, r0.2)) (fun r1 => (ByteArray.empty, false)) (ref03_Get.w2 a0 a1))
theorem w2_v (c0 : Rows) (c1 : ByteArray) (hc0 : Brs c0) (x0 : Unit) (h0 : True) : DV (fun k => iter (s2 k c0 c1) k ((fun (x : Unit) (i : Int) => i) x0 0)) (w2 c0 c1) (Ps (Pp (Sz 1048576) Pt) Pt) := by
  refine DV.walk (fun (x : Unit) (i : Int) => i) hc0.1 (p2 c1) z2 (fun (i : Int) (x : Unit) => True) (Ps (Pp (Sz 1048576) Pt) Pt) (fun i x hp hi hI => ?_) (fun i x hie hi hI => ?_) x0 h0
  · have hlt := lt_of hc0.1 hi
    have hle := Int.le_of_lt hlt
    have hin := iIn_lt hp hi
    exact DG.tt hi (DG.tt (iIn_lt hp hi) (DG.test (fun h_1 => (DG.tt (iIn_lt hp hi) (DG.inr rfl ⟨(Br.str (Brs.at hc0 _) _), trivial⟩))) (fun h_1 => (DG.inl rfl trivial))))
  · have hle := eq_le hc0.1 hie
    exact DG.ff hi (DG.ex rfl trivial)
theorem val (a0 : Rows) (a1 : ByteArray) (ha0 : Brs a0) : DV (fun k => (f k a0 a1).eval) (v a0 a1) (Pp (Sz 1048576) Pt) := (DG.cas (ref03_Get.w2_v _ _ ha0 () trivial) (fun r0 hr0 => (DG.ret ⟨hr0.1, trivial⟩)) (fun r1 hr1 => (DG.ret ⟨(Nat.le_trans (@Nat.le_of_ble_eq_true _ 0 rfl) (Nat.le_of_ble_eq_true rfl)), trivial⟩)))
end ref03_Get
namespace ref36_Domain
def v (a0 : Row) (a1 : ByteArray) : (ByteArray × Bool) := (let r0 := (ref03_Get.v (rSl a0 9) a1); (r0.1, r0.2))
theorem val (a0 : Row) (a1 : ByteArray) (ha0 : Br a0) : DV (fun k => (f k a0 a1).eval) (v a0 a1) (Pp (Sz 1048576) Pt) := (DG.bnd (ref03_Get.val _ _ (Br.sl ha0 _)) (fun hr0 => (DG.ret ⟨hr0.1, trivial⟩)))
end ref36_Domain
namespace ref03_among
def p2 (c1 : ByteArray) (i : Int) (q : Row) (x : Unit) : (Unit) ⊕ (Bool ⊕ Unit) := (bif (sEq (rStr q 0) c1) then (.inr (.inl true)) else (.inl ()))
def z2 (x : Unit) : Bool ⊕ Unit := (.inr ())
def w2 (c0 : Rows) (c1 : ByteArray) : Bool ⊕ Unit := walk (p2 c1) z2 c0 0 ()
def v (a0 : Rows) (a1 : ByteArray) : Bool := (Sum.elim (fun r0 => r0) (fun r1 => false) (ref03_among.w2 a0 a1))
theorem w2_v (c0 : Rows) (c1 : ByteArray) (hc0 : Brs c0) (x0 : Unit) (h0 : True) : DV (fun k => iter (s2 k c0 c1) k ((fun (x : Unit) (i : Int) => i) x0 0)) (w2 c0 c1) (Ps Pt Pt) := by
  refine DV.walk (fun (x : Unit) (i : Int) => i) hc0.1 (p2 c1) z2 (fun (i : Int) (x : Unit) => True) (Ps Pt Pt) (fun i x hp hi hI => ?_) (fun i x hie hi hI => ?_) x0 h0
  · have hlt := lt_of hc0.1 hi
    have hle := Int.le_of_lt hlt
    have hin := iIn_lt hp hi
    exact DG.tt hi (DG.tt (iIn_lt hp hi) (DG.test (fun h_1 => (DG.inr rfl trivial)) (fun h_1 => (DG.inl rfl trivial))))
  · have hle := eq_le hc0.1 hie
    exact DG.ff hi (DG.ex rfl trivial)
theorem val (a0 : Rows) (a1 : ByteArray) (ha0 : Brs a0) : DV (fun k => (f k a0 a1).eval) (v a0 a1) Pt := (DG.cas (ref03_among.w2_v _ _ ha0 () trivial) (fun r0 hr0 => (DG.ret trivial)) (fun r1 hr1 => (DG.ret trivial)))
end ref03_among
namespace ref03_holds
def v (a0 : Row) (a1 : Rows) : Bool := (let r0 := (ref03_Get.v a1 (rStr a0 0)); (bif (iEq (rInt a0 1) 1) then (let r1 := bif r0.2 then (ref03_among.v (rSl a0 2) r0.1) else default; (bIte r0.2 r1 false)) else (bif (iEq (rInt a0 1) 2) then (let r2 := bif (bNot (bNot r0.2)) then (ref03_among.v (rSl a0 2) r0.1) else default; (bIte (bNot r0.2) true (bNot r2))) else (bIte (bIte (iEq (rInt a0 1) 3) r0.2 false) true (bIte (iEq (rInt a0 1) 4) (bNot r0.2) false)))))
theorem val (a0 : Row) (a1 : Rows) (ha0 : Br a0) (ha1 : Brs a1) : DV (fun k => (f k a0 a1).eval) (v a0 a1) Pt := (DG.bnd (ref03_Get.val _ _ ha1) (fun hr0 => (DG.test (fun h_2 => (DG.opt (fun h_3 => (ref03_among.val _ _ (Br.sl ha0 _))) (fun _ => trivial) (fun hr1 => (DG.ret trivial)))) (fun h_2 => (DG.test (fun h_4 => (DG.opt (fun h_5 => (ref03_among.val _ _ (Br.sl ha0 _))) (fun _ => trivial) (fun hr2 => (DG.ret trivial)))) (fun h_4 => (DG.ret trivial)))))))
end ref03_holds
namespace ref03_Matches
def p2 (c1 : Rows) (i : Int) (q : Row) (x : Unit) : (Unit) ⊕ (Bool ⊕ Unit) := (let r0 := (ref03_holds.v (et 94 q) c1); (bif (bNot r0) then (.inr (.inl false)) else (.inl ())))
def z2 (x : Unit) : Bool ⊕ Unit := (.inr ())
def w2 (c0 : Rows) (c1 : Rows) : Bool ⊕ Unit := walk (p2 c1) z2 c0 0 ()
def v (a0 : Rows) (a1 : Rows) : Bool := (Sum.elim (fun r0 => r0) (fun r1 => true) (ref03_Matches.w2 a0 a1))
theorem w2_v (c0 : Rows) (c1 : Rows) (hc0 : Brs c0) (hc1 : Brs c1) (x0 : Unit) (h0 : True) : DV (fun k => iter (s2 k c0 c1) k ((fun (x : Unit) (i : Int) => i) x0 0)) (w2 c0 c1) (Ps Pt Pt) := by
  refine DV.walk (fun (x : Unit) (i : Int) => i) hc0.1 (p2 c1) z2 (fun (i : Int) (x : Unit) => True) (Ps Pt Pt) (fun i x hp hi hI => ?_) (fun i x hie hi hI => ?_) x0 h0
  · have hlt := lt_of hc0.1 hi
    have hle := Int.le_of_lt hlt
    have hin := iIn_lt hp hi
    exact DG.tt hi (DG.tt (iIn_lt hp hi) (DG.bnd (ref03_holds.val _ _ (Br.eta (Brs.at hc0 _) _) hc1) (fun hr0 => (DG.test (fun h_2 => (DG.inr rfl trivial)) (fun h_2 => (DG.inl rfl trivial))))))
  · have hle := eq_le hc0.1 hie
    exact DG.ff hi (DG.ex rfl trivial)
theorem val (a0 : Rows) (a1 : Rows) (ha0 : Brs a0) (ha1 : Brs a1) : DV (fun k => (f k a0 a1).eval) (v a0 a1) Pt := (DG.cas (ref03_Matches.w2_v _ _ ha0 ha1 () trivial) (fun r0 hr0 => (DG.ret trivial)) (fun r1 hr1 => (DG.ret trivial)))
end ref03_Matches
namespace ref13_Key
def v (a0 : ByteArray) (a1 : ByteArray) (a2 : ByteArray) : ByteArray := (sCat (sCat (sCat (sCat a0 (bs [47])) a1) (bs [47])) a2)
theorem val (a0 : ByteArray) (a1 : ByteArray) (a2 : ByteArray) (ha0 : Sz 1048576 a0) (ha1 : Sz 1048576 a1) (ha2 : Sz 1048576 a2) : DV (fun k => (f k a0 a1 a2).eval) (v a0 a1 a2) (Sz 3145730) := (DG.tt (sOk_sz ha0 (@Nat.le_of_ble_eq_true _ 1 rfl) (by decide)) (DG.tt (sOk_sz (sz_cat ha0 (@Nat.le_of_ble_eq_true _ 1 rfl)) ha1 (by decide)) (DG.tt (sOk_sz (sz_cat (sz_cat ha0 (@Nat.le_of_ble_eq_true _ 1 rfl)) ha1) (@Nat.le_of_ble_eq_true _ 1 rfl) (by decide)) (DG.tt (sOk_sz (sz_cat (sz_cat (sz_cat ha0 (@Nat.le_of_ble_eq_true _ 1 rfl)) ha1) (@Nat.le_of_ble_eq_true _ 1 rfl)) ha2 (by decide)) (DG.ret (sz_cat (sz_cat (sz_cat (sz_cat ha0 (@Nat.le_of_ble_eq_true _ 1 rfl)) ha1) (@Nat.le_of_ble_eq_true _ 1 rfl)) ha2))))))
end ref13_Key
namespace ref13_KeyOf
def v (a0 : Row) : ByteArray := (let r0 := (ref13_Key.v (rStr a0 0) (rStr a0 1) (rStr a0 2)); r0)
theorem val (a0 : Row) (ha0 : Br a0) : DV (fun k => (f k a0).eval) (v a0) (Sz 3145730) := (DG.bnd (ref13_Key.val _ _ _ (Br.str ha0 _) (Br.str ha0 _) (Br.str ha0 _)) (fun hr0 => (DG.ret hr0)))
end ref13_KeyOf
namespace ref36_NodeOf
def p2 (c0 : ByteArray) (i : Int) (q : Row) (x : Unit) : (Unit) ⊕ ((Bool × Row) ⊕ Unit) := (bif (sEq (rStr q 2) c0) then (.inr (.inl (true, et 46 q))) else (.inl ()))
def z2 (x : Unit) : (Bool × Row) ⊕ Unit := (.inr ())
def w2 (c0 : ByteArray) (c1 : Row) : (Bool × Row) ⊕ Unit := walk (p2 c0) z2 (rSl c1 0) 0 ()
def v (a0 : Row) (a1 : ByteArray) : (Row × Bool) := (Sum.elim (fun r0 => (et 46 r0.2, r0.1)) (fun r1 => ([.str ByteArray.empty, .str ByteArray.empty, .str ByteArray.empty, .int .i64 0, .int .i64 0, .int .i64 0, .int .i64 0, .bool false, .int .i64 0, .slice 105 [] .open, .slice 107 [] .open, .slice 9 [] .open, .slice 109 [] .open, .int .i64 0, .int .i64 0, .int .i64 0, .int .i64 0, .bool false, .slice 167 [] .open, .bool false, .int .i64 0, .bool false, .bool false, .slice 169 [] .open], false)) (ref36_NodeOf.w2 a1 (et 58 a0)))
theorem w2_v (c0 : ByteArray) (c1 : Row) (c2 : Row) (hc1 : Br c1) (x0 : Unit) (h0 : True) : DV (fun k => iter (s2 k c0 c1 c2) k ((fun (x : Unit) (i : Int) => i) x0 0)) (w2 c0 c1) (Ps (Pp Pt Br) Pt) := by
  refine DV.walk (fun (x : Unit) (i : Int) => i) (Br.sl hc1 _).1 (p2 c0) z2 (fun (i : Int) (x : Unit) => True) (Ps (Pp Pt Br) Pt) (fun i x hp hi hI => ?_) (fun i x hie hi hI => ?_) x0 h0
  · have hlt := lt_of (Br.sl hc1 _).1 hi
    have hle := Int.le_of_lt hlt
    have hin := iIn_lt hp hi
    exact DG.tt hi (DG.tt (iIn_lt hp hi) (DG.test (fun h_1 => (DG.tt (iIn_lt hp hi) (DG.inr rfl ⟨trivial, (Br.eta (Brs.at (Br.sl hc1 _) _) _)⟩))) (fun h_1 => (DG.inl rfl trivial))))
  · have hle := eq_le (Br.sl hc1 _).1 hie
    exact DG.ff hi (DG.ex rfl trivial)
theorem val (a0 : Row) (a1 : ByteArray) (ha0 : Br a0) : DV (fun k => (f k a0 a1).eval) (v a0 a1) (Pp Br Pt) := (DG.cas (ref36_NodeOf.w2_v _ _ _ (Br.eta ha0 _) () trivial) (fun r0 hr0 => (DG.ret ⟨(Br.eta hr0.2 _), trivial⟩)) (fun r1 hr1 => (DG.ret ⟨(br_cons (brc_str (Nat.le_trans (@Nat.le_of_ble_eq_true _ 0 rfl) (Nat.le_of_ble_eq_true rfl))) (br_cons (brc_str (Nat.le_trans (@Nat.le_of_ble_eq_true _ 0 rfl) (Nat.le_of_ble_eq_true rfl))) (br_cons (brc_str (Nat.le_trans (@Nat.le_of_ble_eq_true _ 0 rfl) (Nat.le_of_ble_eq_true rfl))) (br_cons brc_int (br_cons brc_int (br_cons brc_int (br_cons brc_int (br_cons brc_bool (br_cons brc_int (br_cons (brc_slice (brs_of (Nat.le_of_ble_eq_true rfl) all_nil)) (br_cons (brc_slice (brs_of (Nat.le_of_ble_eq_true rfl) all_nil)) (br_cons (brc_slice (brs_of (Nat.le_of_ble_eq_true rfl) all_nil)) (br_cons (brc_slice (brs_of (Nat.le_of_ble_eq_true rfl) all_nil)) (br_cons brc_int (br_cons brc_int (br_cons brc_int (br_cons brc_int (br_cons brc_bool (br_cons (brc_slice (brs_of (Nat.le_of_ble_eq_true rfl) all_nil)) (br_cons brc_bool (br_cons brc_int (br_cons brc_bool (br_cons brc_bool (br_cons (brc_slice (brs_of (Nat.le_of_ble_eq_true rfl) all_nil)) br_nil)))))))))))))))))))))))), trivial⟩)))
end ref36_NodeOf
namespace ref36_Bound
def p3 (c0 : Row) (c1 : Row) (i : Int) (q : Row) (x : Rows) : (Rows) ⊕ (Rows) := (let r0 := (ref36_NodeOf.v (et 58 c0) (rStr q 13)); (let r1 := bif (bIte r0.2 (bIte (iEq (rInt q 23) 0) true (iEq (rInt q 23) 1)) false) then (ref13_KeyOf.v (et 27 q)) else default; (let r2 := bif (bIte r0.2 (bIte (iEq (rInt q 23) 0) true (iEq (rInt q 23) 1)) false) then (ref13_KeyOf.v (et 27 c1)) else default; (bif (bIte (bIte r0.2 (bIte (iEq (rInt q 23) 0) true (iEq (rInt q 23) 1)) false) (bNot (sEq r1 r2)) false) then (.inl (rCat x [et 40 q])) else (.inl x)))))
def z3 (x : Rows) : Rows := x
def w3 (c0 : Row) (c1 : Row) (x0 : Rows) : Rows := walk (p3 c0 c1) z3 (rSl c0 1) 0 x0
def v (a0 : Row) (a1 : Row) : Rows := (let r0 := (ref36_Bound.w3 (et 58 a0) (et 40 a1) []); r0)
theorem w3_v (c0 : Row) (c1 : Row) (hc0 : Br c0) (hc1 : Br c1) (x0 : Rows) (h0 : Grow 0 x0) : DV (fun k => iter (s3 k c0 c1) k ((fun (x : Rows) (i : Int) => (x, i)) x0 0)) (w3 c0 c1 x0) Brs := by
  refine DV.walk (fun (x : Rows) (i : Int) => (x, i)) (Br.sl hc0 _).1 (p3 c0 c1) z3 (fun (i : Int) (x : Rows) => Grow i x) Brs (fun i x hp hi hI => ?_) (fun i x hie hi hI => ?_) x0 h0
  · have hlt := lt_of (Br.sl hc0 _).1 hi
    have hle := Int.le_of_lt hlt
    have hin := iIn_lt hp hi
    exact DG.tt hi (DG.tt (iIn_lt hp hi) (DG.bnd (ref36_NodeOf.val _ _ (Br.eta hc0 _)) (fun hr0 => (DG.opt (fun h_2 => (ref13_KeyOf.val _ (Br.eta (Brs.at (Br.sl hc0 _) _) _))) (fun _ => (Nat.zero_le _)) (fun hr1 => (DG.opt (fun h_3 => (ref13_KeyOf.val _ (Br.eta hc1 _))) (fun _ => (Nat.zero_le _)) (fun hr2 => (DG.test (fun h_4 => (DG.tt (Grow.ok hI hlt (by decide)) (DG.inl rfl (Grow.push hI (Br.eta (Brs.at (Br.sl hc0 _) _) _))))) (fun h_4 => (DG.inl rfl (Grow.same hI)))))))))))
  · have hle := eq_le (Br.sl hc0 _).1 hie
    exact DG.ff hi (DG.ex rfl (Grow.done hI hle))
theorem val (a0 : Row) (a1 : Row) (ha0 : Br a0) (ha1 : Br a1) : DV (fun k => (f k a0 a1).eval) (v a0 a1) Brs := (DG.bnd (ref36_Bound.w3_v _ _ (Br.eta ha0 _) (Br.eta ha1 _) _ Grow.nil) (fun hr0 => (DG.ret hr0)))
end ref36_Bound
namespace ref36_together
def v (a0 : Row) (a1 : Row) (a2 : Row) (a3 : ByteArray) : Bool := (let r0 := (ref36_NodeOf.v (et 58 a0) (rStr a1 13)); (let r1 := (ref36_Domain.v (et 46 r0.1) a3); (let r2 := (ref36_Domain.v (et 46 a2) a3); (bIte (bIte r1.2 r2.2 false) (sEq r1.1 r2.1) false))))
theorem val (a0 : Row) (a1 : Row) (a2 : Row) (a3 : ByteArray) (ha0 : Br a0) (ha2 : Br a2) : DV (fun k => (f k a0 a1 a2 a3).eval) (v a0 a1 a2 a3) Pt := (DG.bnd (ref36_NodeOf.val _ _ (Br.eta ha0 _)) (fun hr0 => (DG.bnd (ref36_Domain.val _ _ (Br.eta hr0.1 _)) (fun hr1 => (DG.bnd (ref36_Domain.val _ _ (Br.eta ha2 _)) (fun hr2 => (DG.ret trivial)))))))
end ref36_together
namespace ref36_Against
def p6 (c0 : Rows) (c1 : Int) (c2 : Row) (c3 : Row) (c4 : Row) (i : Int) (q : Row) (x : Unit) : (Unit) ⊕ (Bool ⊕ Unit) := (let r0 := bif (bIte (bIte (rBool q 0) (rBool q 1) false) (sEq (rStr (rAt c0 c1) 1) (rStr c3 1)) false) then (ref03_Matches.v (rSl q 2) (rSl c3 9)) else default; (let r1 := bif (bIte (bIte (bIte (rBool q 0) (rBool q 1) false) (sEq (rStr (rAt c0 c1) 1) (rStr c3 1)) false) r0 false) then (ref36_together.v (et 58 c2) (et 40 (rAt c0 c1)) (et 46 c4) (rStr q 3)) else default; (bif (bIte (bIte (bIte (bIte (rBool q 0) (rBool q 1) false) (sEq (rStr (rAt c0 c1) 1) (rStr c3 1)) false) r0 false) r1 false) then (.inr (.inl true)) else (.inl ()))))
def z6 (x : Unit) : Bool ⊕ Unit := (.inr ())
def w6 (c0 : Rows) (c1 : Int) (c2 : Row) (c3 : Row) (c4 : Row) : Bool ⊕ Unit := walk (p6 c0 c1 c2 c3 c4) z6 (rSl (rAt c0 c1) 20) 0 ()
def p3 (c0 : Rows) (c1 : Row) (c2 : Row) (c3 : Row) (i : Int) (q : Row) (x : Unit) : (Unit) ⊕ (Bool ⊕ Unit) := (Sum.elim (fun r0 => (.inr (.inl r0))) (fun r1 => (.inl ())) (ref36_Against.w6 c0 i (et 58 c1) (et 40 c2) (et 46 c3)))
def z3 (x : Unit) : Bool ⊕ Unit := (.inr ())
def w3 (c0 : Rows) (c1 : Row) (c2 : Row) (c3 : Row) : Bool ⊕ Unit := walk (p3 c0 c1 c2 c3) z3 c0 0 ()
def v (a0 : Row) (a1 : Row) (a2 : Row) : Bool := (let r0 := (ref36_Bound.v (et 58 a0) (et 40 a1)); (Sum.elim (fun r1 => r1) (fun r2 => false) (ref36_Against.w3 r0 (et 58 a0) (et 40 a1) (et 46 a2))))
theorem w6_v (c0 : Rows) (c1 : Int) (c2 : Row) (c3 : Row) (c4 : Row) (hc0 : Brs c0) (hc2 : Br c2) (hc3 : Br c3) (hc4 : Br c4) (g0 : (iIn c1 (rLen c0)) = true) (x0 : Unit) (h0 : True) : DV (fun k => iter (s6 k c0 c1 c2 c3 c4) k ((fun (x : Unit) (i : Int) => i) x0 0)) (w6 c0 c1 c2 c3 c4) (Ps Pt Pt) := by
  refine DV.walk (fun (x : Unit) (i : Int) => i) (Br.sl (Brs.at hc0 _) _).1 (p6 c0 c1 c2 c3 c4) z6 (fun (i : Int) (x : Unit) => True) (Ps Pt Pt) (fun i x hp hi hI => ?_) (fun i x hie hi hI => ?_) x0 h0
  · have hlt := lt_of (Br.sl (Brs.at hc0 _) _).1 hi
    have hle := Int.le_of_lt hlt
    have hin := iIn_lt hp hi
    exact (DG.tt g0 (DG.tt hi (DG.tt g0 (DG.tt (iIn_lt hp hi) (DG.tt (bimp_ g0) (DG.opt (fun h_1 => (ref03_Matches.val _ _ (Br.sl (Brs.at (Br.sl (Brs.at hc0 _) _) _) _) (Br.sl hc3 _))) (fun _ => trivial) (fun hr0 => (DG.tt (bimp_ g0) (DG.opt (fun h_2 => (ref36_together.val _ _ _ _ (Br.eta hc2 _) (Br.eta hc4 _))) (fun _ => trivial) (fun hr1 => (DG.test (fun h_3 => (DG.inr rfl trivial)) (fun h_3 => (DG.inl rfl trivial)))))))))))))
  · have hle := eq_le (Br.sl (Brs.at hc0 _) _).1 hie
    exact (DG.tt g0 (DG.ff hi (DG.ex rfl trivial)))
theorem w3_v (c0 : Rows) (c1 : Row) (c2 : Row) (c3 : Row) (hc0 : Brs c0) (hc1 : Br c1) (hc2 : Br c2) (hc3 : Br c3) (x0 : Unit) (h0 : True) : DV (fun k => iter (s3 k c0 c1 c2 c3) k ((fun (x : Unit) (i : Int) => i) x0 0)) (w3 c0 c1 c2 c3) (Ps Pt Pt) := by
  refine DV.walk (fun (x : Unit) (i : Int) => i) hc0.1 (p3 c0 c1 c2 c3) z3 (fun (i : Int) (x : Unit) => True) (Ps Pt Pt) (fun i x hp hi hI => ?_) (fun i x hie hi hI => ?_) x0 h0
  · have hlt := lt_of hc0.1 hi
    have hle := Int.le_of_lt hlt
    have hin := iIn_lt hp hi
    exact DG.tt hi (DG.cas (ref36_Against.w6_v _ _ _ _ _ hc0 (Br.eta hc1 _) (Br.eta hc2 _) (Br.eta hc3 _) (iIn_lt hp hi) () trivial) (fun r0 hr0 => (DG.inr rfl trivial)) (fun r1 hr1 => (DG.inl rfl trivial)))
  · have hle := eq_le hc0.1 hie
    exact DG.ff hi (DG.ex rfl trivial)
theorem val (a0 : Row) (a1 : Row) (a2 : Row) (ha0 : Br a0) (ha1 : Br a1) (ha2 : Br a2) : DV (fun k => (f k a0 a1 a2).eval) (v a0 a1 a2) Pt := (DG.bnd (ref36_Bound.val _ _ (Br.eta ha0 _) (Br.eta ha1 _)) (fun hr0 => (DG.cas (ref36_Against.w3_v _ _ _ _ hr0 (Br.eta ha0 _) (Br.eta ha1 _) (Br.eta ha2 _) () trivial) (fun r1 hr1 => (DG.ret trivial)) (fun r2 hr2 => (DG.ret trivial)))))
end ref36_Against
namespace ref36_near
def p3 (c1 : Row) (c2 : Row) (c3 : Row) (c4 : Row) (i : Int) (q : Row) (x : Unit) : (Unit) ⊕ (Bool ⊕ Unit) := (let r0 := bif (sEq (rStr q 1) (rStr c2 1)) then (ref03_Matches.v (rSl c4 2) (rSl q 9)) else default; (let r1 := bif (bIte (sEq (rStr q 1) (rStr c2 1)) r0 false) then (ref36_together.v (et 58 c1) (et 40 q) (et 46 c3) (rStr c4 3)) else default; (bif (bIte (bIte (sEq (rStr q 1) (rStr c2 1)) r0 false) r1 false) then (.inr (.inl true)) else (.inl ()))))
def z3 (x : Unit) : Bool ⊕ Unit := (.inr ())
def w3 (c0 : Rows) (c1 : Row) (c2 : Row) (c3 : Row) (c4 : Row) : Bool ⊕ Unit := walk (p3 c1 c2 c3 c4) z3 c0 0 ()
def v (a0 : Row) (a1 : Row) (a2 : Row) (a3 : Row) : Bool := (let r0 := (ref36_Bound.v (et 58 a0) (et 40 a1)); (Sum.elim (fun r1 => r1) (fun r2 => false) (ref36_near.w3 r0 (et 58 a0) (et 40 a1) (et 46 a2) (et 65 a3))))
theorem w3_v (c0 : Rows) (c1 : Row) (c2 : Row) (c3 : Row) (c4 : Row) (hc0 : Brs c0) (hc1 : Br c1) (hc3 : Br c3) (hc4 : Br c4) (x0 : Unit) (h0 : True) : DV (fun k => iter (s3 k c0 c1 c2 c3 c4) k ((fun (x : Unit) (i : Int) => i) x0 0)) (w3 c0 c1 c2 c3 c4) (Ps Pt Pt) := by
  refine DV.walk (fun (x : Unit) (i : Int) => i) hc0.1 (p3 c1 c2 c3 c4) z3 (fun (i : Int) (x : Unit) => True) (Ps Pt Pt) (fun i x hp hi hI => ?_) (fun i x hie hi hI => ?_) x0 h0
  · have hlt := lt_of hc0.1 hi
    have hle := Int.le_of_lt hlt
    have hin := iIn_lt hp hi
    exact DG.tt hi (DG.tt (iIn_lt hp hi) (DG.tt (bimp_ (iIn_lt hp hi)) (DG.opt (fun h_1 => (ref03_Matches.val _ _ (Br.sl hc4 _) (Br.sl (Brs.at hc0 _) _))) (fun _ => trivial) (fun hr0 => (DG.tt (bimp_ (iIn_lt hp hi)) (DG.opt (fun h_2 => (ref36_together.val _ _ _ _ (Br.eta hc1 _) (Br.eta hc3 _))) (fun _ => trivial) (fun hr1 => (DG.test (fun h_3 => (DG.inr rfl trivial)) (fun h_3 => (DG.inl rfl trivial))))))))))
  · have hle := eq_le hc0.1 hie
    exact DG.ff hi (DG.ex rfl trivial)
theorem val (a0 : Row) (a1 : Row) (a2 : Row) (a3 : Row) (ha0 : Br a0) (ha1 : Br a1) (ha2 : Br a2) (ha3 : Br a3) : DV (fun k => (f k a0 a1 a2 a3).eval) (v a0 a1 a2 a3) Pt := (DG.bnd (ref36_Bound.val _ _ (Br.eta ha0 _) (Br.eta ha1 _)) (fun hr0 => (DG.cas (ref36_near.w3_v _ _ _ _ _ hr0 (Br.eta ha0 _) (Br.eta ha2 _) (Br.eta ha3 _) () trivial) (fun r1 hr1 => (DG.ret trivial)) (fun r2 hr2 => (DG.ret trivial)))))
end ref36_near
namespace ref36_first
def p3 (c1 : Row) (c2 : Row) (i : Int) (q : Row) (x : Unit) : (Unit) ⊕ (Bool ⊕ Unit) := (let r0 := bif (sEq (rStr q 1) (rStr c1 1)) then (ref03_Matches.v (rSl c2 2) (rSl q 9)) else default; (bif (bIte (sEq (rStr q 1) (rStr c1 1)) r0 false) then (.inr (.inl false)) else (.inl ())))
def z3 (x : Unit) : Bool ⊕ Unit := (.inr ())
def w3 (c0 : Rows) (c1 : Row) (c2 : Row) : Bool ⊕ Unit := walk (p3 c1 c2) z3 c0 0 ()
def v (a0 : Row) (a1 : Row) (a2 : Row) : Bool := (let r0 := (ref36_Bound.v (et 58 a0) (et 40 a1)); (Sum.elim (fun r1 => r1) (fun r2 => (let r3 := (ref03_Matches.v (rSl a2 2) (rSl a1 9)); r3)) (ref36_first.w3 r0 (et 40 a1) (et 65 a2))))
theorem w3_v (c0 : Rows) (c1 : Row) (c2 : Row) (hc0 : Brs c0) (hc2 : Br c2) (x0 : Unit) (h0 : True) : DV (fun k => iter (s3 k c0 c1 c2) k ((fun (x : Unit) (i : Int) => i) x0 0)) (w3 c0 c1 c2) (Ps Pt Pt) := by
  refine DV.walk (fun (x : Unit) (i : Int) => i) hc0.1 (p3 c1 c2) z3 (fun (i : Int) (x : Unit) => True) (Ps Pt Pt) (fun i x hp hi hI => ?_) (fun i x hie hi hI => ?_) x0 h0
  · have hlt := lt_of hc0.1 hi
    have hle := Int.le_of_lt hlt
    have hin := iIn_lt hp hi
    exact DG.tt hi (DG.tt (iIn_lt hp hi) (DG.tt (bimp_ (iIn_lt hp hi)) (DG.opt (fun h_1 => (ref03_Matches.val _ _ (Br.sl hc2 _) (Br.sl (Brs.at hc0 _) _))) (fun _ => trivial) (fun hr0 => (DG.test (fun h_2 => (DG.inr rfl trivial)) (fun h_2 => (DG.inl rfl trivial)))))))
  · have hle := eq_le hc0.1 hie
    exact DG.ff hi (DG.ex rfl trivial)
theorem val (a0 : Row) (a1 : Row) (a2 : Row) (ha0 : Br a0) (ha1 : Br a1) (ha2 : Br a2) : DV (fun k => (f k a0 a1 a2).eval) (v a0 a1 a2) Pt := (DG.bnd (ref36_Bound.val _ _ (Br.eta ha0 _) (Br.eta ha1 _)) (fun hr0 => (DG.cas (ref36_first.w3_v _ _ _ hr0 (Br.eta ha2 _) () trivial) (fun r1 hr1 => (DG.ret trivial)) (fun r2 hr2 => (DG.bnd (ref03_Matches.val _ _ (Br.sl ha2 _) (Br.sl ha1 _)) (fun hr3 => (DG.ret trivial)))))))
end ref36_first
namespace ref36_PodFits
def p3 (c0 : Row) (c1 : Row) (c2 : Row) (i : Int) (q : Row) (x : Bool) : (Bool) ⊕ (Int ⊕ Bool) := (bif (bNot (rBool q 0)) then (.inl x) else (let r0 := (ref36_near.v (et 58 c0) (et 40 c1) (et 46 c2) (et 65 q)); (bif (rBool q 1) then (.inl (bIte x true r0)) else (let r1 := (ref36_Domain.v (et 46 c2) (rStr q 3)); (let r2 := bif (bAnd (bNot r0) (bNot (bNot r1.2))) then (ref36_first.v (et 58 c0) (et 40 c1) (et 65 q)) else default; (bif (bIte (bNot r0) (bIte (bNot r1.2) true (bNot r2)) false) then (.inr (.inl 8)) else (.inl x)))))))
def z3 (x : Bool) : Int ⊕ Bool := (.inr x)
def w3 (c0 : Row) (c1 : Row) (c2 : Row) (x0 : Bool) : Int ⊕ Bool := walk (p3 c0 c1 c2) z3 (rSl c1 20) 0 x0
def v (a0 : Row) (a1 : Row) (a2 : Row) : Int := (let r0 := (ref36_Against.v (et 58 a0) (et 40 a1) (et 46 a2)); (Sum.elim (fun r1 => r1) (fun r2 => (bif r2 then 9 else 0)) (ref36_PodFits.w3 (et 58 a0) (et 40 a1) (et 46 a2) r0)))
theorem w3_v (c0 : Row) (c1 : Row) (c2 : Row) (hc0 : Br c0) (hc1 : Br c1) (hc2 : Br c2) (x0 : Bool) (h0 : True) : DV (fun k => iter (s3 k c0 c1 c2) k ((fun (x : Bool) (i : Int) => (x, i)) x0 0)) (w3 c0 c1 c2 x0) (Ps Pt Pt) := by
  refine DV.walk (fun (x : Bool) (i : Int) => (x, i)) (Br.sl hc1 _).1 (p3 c0 c1 c2) z3 (fun (i : Int) (x : Bool) => True) (Ps Pt Pt) (fun i x hp hi hI => ?_) (fun i x hie hi hI => ?_) x0 h0
  · have hlt := lt_of (Br.sl hc1 _).1 hi
    have hle := Int.le_of_lt hlt
    have hin := iIn_lt hp hi
    exact DG.tt hi (DG.tt (iIn_lt hp hi) (DG.test (fun h_1 => (DG.inl rfl trivial)) (fun h_1 => (DG.bnd (ref36_near.val _ _ _ _ (Br.eta hc0 _) (Br.eta hc1 _) (Br.eta hc2 _) (Br.eta (Brs.at (Br.sl hc1 _) _) _)) (fun hr0 => (DG.test (fun h_3 => (DG.inl rfl trivial)) (fun h_3 => (DG.bnd (ref36_Domain.val _ _ (Br.eta hc2 _)) (fun hr1 => (DG.opt (fun h_5 => (ref36_first.val _ _ _ (Br.eta hc0 _) (Br.eta hc1 _) (Br.eta (Brs.at (Br.sl hc1 _) _) _))) (fun _ => trivial) (fun hr2 => (DG.test (fun h_6 => (DG.inr rfl trivial)) (fun h_6 => (DG.inl rfl trivial))))))))))))))
  · have hle := eq_le (Br.sl hc1 _).1 hie
    exact DG.ff hi (DG.ex rfl trivial)
theorem val (a0 : Row) (a1 : Row) (a2 : Row) (ha0 : Br a0) (ha1 : Br a1) (ha2 : Br a2) : DV (fun k => (f k a0 a1 a2).eval) (v a0 a1 a2) Pt := (DG.bnd (ref36_Against.val _ _ _ (Br.eta ha0 _) (Br.eta ha1 _) (Br.eta ha2 _)) (fun hr0 => (DG.cas (ref36_PodFits.w3_v _ _ _ (Br.eta ha0 _) (Br.eta ha1 _) (Br.eta ha2 _) _ trivial) (fun r1 hr1 => (DG.ret trivial)) (fun r2 hr2 => (DG.test (fun h_2 => (DG.ret trivial)) (fun h_2 => (DG.ret trivial)))))))
end ref36_PodFits
namespace ref36_clamp
def v (a0 : Int) : Int := (bif (iLt a0 (-1000000000000000)) then (-1000000000000000) else (bif (iLt 1000000000000000 a0) then 1000000000000000 else a0))
theorem val (a0 : Int) : DV (fun k => (f k a0).eval) (v a0) Pt := (DG.test (fun h_1 => (DG.ret trivial)) (fun h_1 => (DG.test (fun h_2 => (DG.ret trivial)) (fun h_2 => (DG.ret trivial)))))
end ref36_clamp
namespace ref36_Preference
def p3 (c2 : Row) (i : Int) (q : Row) (x : Int) : (Int) ⊕ (Int) := (let r0 := bif (bNot (rBool q 0)) then (ref03_Matches.v (rSl q 1) (rSl c2 9)) else default; (bif (bIte (bNot (rBool q 0)) r0 false) then (let r1 := (ref36_clamp.v (rInt q 2)); (.inl (iAdd .i64 x r1))) else (.inl x)))
def z3 (x : Int) : Int := x
def w3 (c1 : Row) (c2 : Row) (x0 : Int) : Int := walk (p3 c2) z3 (rSl c1 19) 0 x0
def p9 (c0 : Row) (c1 : Row) (c2 : Row) (i : Int) (q : Row) (x : Int) : (Int) ⊕ (Int) := (let r0 := bif (bNot (rBool q 0)) then (ref36_near.v (et 58 c0) (et 40 c1) (et 46 c2) (et 65 q)) else default; (bif (bIte (rBool q 0) true (bNot r0)) then (.inl x) else (bif (rBool q 1) then (let r1 := (ref36_clamp.v (rInt q 4)); (.inl (iSub .i64 x r1))) else (let r2 := (ref36_clamp.v (rInt q 4)); (.inl (iAdd .i64 x r2))))))
def z9 (x : Int) : Int := x
def w9 (c0 : Row) (c1 : Row) (c2 : Row) (x0 : Int) : Int := walk (p9 c0 c1 c2) z9 (rSl c1 20) 0 x0
def v (a0 : Row) (a1 : Row) (a2 : Row) : Int := (let r0 := (ref36_Preference.w3 (et 40 a1) (et 46 a2) 0); (let r1 := (ref36_Preference.w9 (et 58 a0) (et 40 a1) (et 46 a2) r0); (let r2 := (ref36_clamp.v r1); r2)))
theorem w3_v (c0 : Row) (c1 : Row) (c2 : Row) (hc1 : Br c1) (hc2 : Br c2) (x0 : Int) (h0 : True) : DV (fun k => iter (s3 k c0 c1 c2) k ((fun (x : Int) (i : Int) => (x, i)) x0 0)) (w3 c1 c2 x0) Pt := by
  refine DV.walk (fun (x : Int) (i : Int) => (x, i)) (Br.sl hc1 _).1 (p3 c2) z3 (fun (i : Int) (x : Int) => True) Pt (fun i x hp hi hI => ?_) (fun i x hie hi hI => ?_) x0 h0
  · have hlt := lt_of (Br.sl hc1 _).1 hi
    have hle := Int.le_of_lt hlt
    have hin := iIn_lt hp hi
    exact DG.tt hi (DG.tt (iIn_lt hp hi) (DG.opt (fun h_1 => (ref03_Matches.val _ _ (Br.sl (Brs.at (Br.sl hc1 _) _) _) (Br.sl hc2 _))) (fun _ => trivial) (fun hr0 => (DG.test (fun h_2 => (DG.bnd (ref36_clamp.val _) (fun hr1 => (DG.inl rfl trivial)))) (fun h_2 => (DG.inl rfl trivial))))))
  · have hle := eq_le (Br.sl hc1 _).1 hie
    exact DG.ff hi (DG.ex rfl trivial)
theorem w9_v (c0 : Row) (c1 : Row) (c2 : Row) (hc0 : Br c0) (hc1 : Br c1) (hc2 : Br c2) (x0 : Int) (h0 : True) : DV (fun k => iter (s9 k c0 c1 c2) k ((fun (x : Int) (i : Int) => (x, i)) x0 0)) (w9 c0 c1 c2 x0) Pt := by
  refine DV.walk (fun (x : Int) (i : Int) => (x, i)) (Br.sl hc1 _).1 (p9 c0 c1 c2) z9 (fun (i : Int) (x : Int) => True) Pt (fun i x hp hi hI => ?_) (fun i x hie hi hI => ?_) x0 h0
  · have hlt := lt_of (Br.sl hc1 _).1 hi
    have hle := Int.le_of_lt hlt
    have hin := iIn_lt hp hi
    exact DG.tt hi (DG.tt (iIn_lt hp hi) (DG.opt (fun h_1 => (ref36_near.val _ _ _ _ (Br.eta hc0 _) (Br.eta hc1 _) (Br.eta hc2 _) (Br.eta (Brs.at (Br.sl hc1 _) _) _))) (fun _ => trivial) (fun hr0 => (DG.test (fun h_2 => (DG.inl rfl trivial)) (fun h_2 => (DG.test (fun h_3 => (DG.bnd (ref36_clamp.val _) (fun hr1 => (DG.inl rfl trivial)))) (fun h_3 => (DG.bnd (ref36_clamp.val _) (fun hr2 => (DG.inl rfl trivial))))))))))
  · have hle := eq_le (Br.sl hc1 _).1 hie
    exact DG.ff hi (DG.ex rfl trivial)
theorem val (a0 : Row) (a1 : Row) (a2 : Row) (ha0 : Br a0) (ha1 : Br a1) (ha2 : Br a2) : DV (fun k => (f k a0 a1 a2).eval) (v a0 a1 a2) Pt := (DG.bnd (ref36_Preference.w3_v _ _ _ (Br.eta ha1 _) (Br.eta ha2 _) _ trivial) (fun hr0 => (DG.bnd (ref36_Preference.w9_v _ _ _ (Br.eta ha0 _) (Br.eta ha1 _) (Br.eta ha2 _) _ trivial) (fun hr1 => (DG.bnd (ref36_clamp.val _) (fun hr2 => (DG.ret trivial)))))))
end ref36_Preference
namespace law36_AffinityPods
def v (a0 : Row) (a1 : Row) (a2 : Row) : Bool := (let r0 := (law36_SmallView.v (et 58 a0)); (let r1 := bif (bNot (bNot r0)) then (law36_SmallPod.v (et 40 a1)) else default; (let r2 := bif (bNot (bIte (bNot r0) true (bNot r1))) then (law36_SmallNode.v (et 46 a2)) else default; (bif (bIte (bIte (bNot r0) true (bNot r1)) true (bNot r2)) then (let r3 := (law36_lives.v ); r3) else (let r4 := (affinity_PodFits.v (et 58 a0) (et 40 a1) (et 46 a2)); (let r5 := (ref36_PodFits.v (et 58 a0) (et 40 a1) (et 46 a2)); (let r6 := bif (iEq r4 r5) then (affinity_Preference.v (et 58 a0) (et 40 a1) (et 46 a2)) else default; (let r7 := bif (iEq r4 r5) then (ref36_Preference.v (et 58 a0) (et 40 a1) (et 46 a2)) else default; (let r8 := bif (bIte (iEq r4 r5) (iEq r6 r7) false) then (law36_lives.v ) else default; (bIte (bIte (iEq r4 r5) (iEq r6 r7) false) r8 false))))))))))
theorem val (a0 : Row) (a1 : Row) (a2 : Row) (ha0 : Br a0) (ha1 : Br a1) (ha2 : Br a2) : DV (fun k => (f k a0 a1 a2).eval) (v a0 a1 a2) Pt := (DG.bnd (law36_SmallView.val _ (Br.eta ha0 _)) (fun hr0 => (DG.opt (fun h_2 => (law36_SmallPod.val _ (Br.eta ha1 _))) (fun _ => trivial) (fun hr1 => (DG.opt (fun h_3 => (law36_SmallNode.val _ (Br.eta ha2 _))) (fun _ => trivial) (fun hr2 => (DG.test (fun h_4 => (DG.bnd (law36_lives.val ) (fun hr3 => (DG.ret trivial)))) (fun h_4 => (DG.bnd (affinity_PodFits.val _ _ _ (Br.eta ha0 _) (Br.eta ha1 _) (Br.eta ha2 _)) (fun hr4 => (DG.bnd (ref36_PodFits.val _ _ _ (Br.eta ha0 _) (Br.eta ha1 _) (Br.eta ha2 _)) (fun hr5 => (DG.opt (fun h_8 => (affinity_Preference.val _ _ _ (Br.eta ha0 _) (Br.eta ha1 _) (Br.eta ha2 _))) (fun _ => trivial) (fun hr6 => (DG.opt (fun h_9 => (ref36_Preference.val _ _ _ (Br.eta ha0 _) (Br.eta ha1 _) (Br.eta ha2 _))) (fun _ => trivial) (fun hr7 => (DG.opt (fun h_10 => (law36_lives.val )) (fun _ => trivial) (fun hr8 => (DG.ret trivial)))))))))))))))))))
end law36_AffinityPods
namespace law36_violated
def p2 (c2 : Row) (c3 : Row) (c4 : Row) (c5 : Row) (i : Int) (q : Row) (x : Unit) : (Unit) ⊕ (Bool ⊕ Unit) := (let r0 := (ref03_Get.v (rSl c4 9) (rStr q 3)); (let r1 := (ref03_Get.v (rSl c5 9) (rStr q 3)); (let r2 := bif (bIte (bIte (bIte (bIte (bIte (rBool q 0) (rBool q 1) false) (sEq (rStr c2 1) (rStr c3 1)) false) r0.2 false) r1.2 false) (sEq r0.1 r1.1) false) then (ref03_Matches.v (rSl q 2) (rSl c3 9)) else default; (bif (bIte (bIte (bIte (bIte (bIte (bIte (rBool q 0) (rBool q 1) false) (sEq (rStr c2 1) (rStr c3 1)) false) r0.2 false) r1.2 false) (sEq r0.1 r1.1) false) r2 false) then (.inr (.inl true)) else (.inl ())))))
def z2 (x : Unit) : Bool ⊕ Unit := (.inr ())
def w2 (c0 : Rows) (c2 : Row) (c3 : Row) (c4 : Row) (c5 : Row) : Bool ⊕ Unit := walk (p2 c2 c3 c4 c5) z2 c0 0 ()
def v (a0 : Row) (a1 : Row) (a2 : Row) (a3 : Row) : Bool := (Sum.elim (fun r0 => r0) (fun r1 => false) (law36_violated.w2 (rSl a0 20) (et 40 a0) (et 40 a1) (et 46 a2) (et 46 a3)))
theorem w2_v (c0 : Rows) (c1 : Int) (c2 : Row) (c3 : Row) (c4 : Row) (c5 : Row) (hc0 : Brs c0) (hc3 : Br c3) (hc4 : Br c4) (hc5 : Br c5) (ec1 : c1 = rLen c0) (x0 : Unit) (h0 : True) : DV (fun k => iter (s2 k c0 c1 c2 c3 c4 c5) k ((fun (x : Unit) (i : Int) => i) x0 0)) (w2 c0 c2 c3 c4 c5) (Ps Pt Pt) := by
  subst ec1; refine DV.walk (fun (x : Unit) (i : Int) => i) hc0.1 (p2 c2 c3 c4 c5) z2 (fun (i : Int) (x : Unit) => True) (Ps Pt Pt) (fun i x hp hi hI => ?_) (fun i x hie hi hI => ?_) x0 h0
  · have hlt := lt_of hc0.1 hi
    have hle := Int.le_of_lt hlt
    have hin := iIn_lt hp hi
    exact DG.tt hi (DG.tt hin (DG.bnd (ref03_Get.val _ _ (Br.sl hc4 _)) (fun hr0 => (DG.bnd (ref03_Get.val _ _ (Br.sl hc5 _)) (fun hr1 => (DG.opt (fun h_3 => (ref03_Matches.val _ _ (Br.sl (Brs.at hc0 _) _) (Br.sl hc3 _))) (fun _ => trivial) (fun hr2 => (DG.test (fun h_4 => (DG.inr rfl trivial)) (fun h_4 => (DG.inl rfl trivial))))))))))
  · have hle := eq_le hc0.1 hie
    exact DG.ff hi (DG.ex rfl trivial)
theorem val (a0 : Row) (a1 : Row) (a2 : Row) (a3 : Row) (ha0 : Br a0) (ha1 : Br a1) (ha2 : Br a2) (ha3 : Br a3) : DV (fun k => (f k a0 a1 a2 a3).eval) (v a0 a1 a2 a3) Pt := (DG.cas (law36_violated.w2_v _ _ _ _ _ _ (Br.sl ha0 _) (Br.eta ha1 _) (Br.eta ha2 _) (Br.eta ha3 _) rfl () trivial) (fun r0 hr0 => (DG.ret trivial)) (fun r1 hr1 => (DG.ret trivial)))
end law36_violated
namespace law36_AffinitySymmetry
def p8 (c6 : Row) (c7 : Row) (c8 : Row) (i : Int) (q : Row) (x : Unit) : (Unit) ⊕ (Bool ⊕ Unit) := (bif (sEq (rStr q 2) (rStr c8 13)) then (let r0 := (law36_violated.v (et 40 c6) (et 40 c8) (et 46 c7) (et 46 q)); (let r1 := bif (bNot r0) then (law36_violated.v (et 40 c8) (et 40 c6) (et 46 q) (et 46 c7)) else default; (bif (bIte r0 true r1) then (.inr (.inl false)) else (.inr (.inr ()))))) else (.inl ()))
def z8 (x : Unit) : Bool ⊕ Unit := (.inr ())
def w8 (c3 : Rows) (c6 : Row) (c7 : Row) (c8 : Row) : Bool ⊕ Unit := walk (p8 c6 c7 c8) z8 c3 0 ()
def p4 (c2 : Row) (c3 : Row) (c4 : Row) (i : Int) (q : Row) (x : Unit) : (Unit) ⊕ (Bool ⊕ Unit) := (let r0 := (ref13_KeyOf.v (et 27 q)); (let r1 := (ref13_KeyOf.v (et 27 c3)); (bif (bIte (sEq r0 r1) true (bIte (bNot (iEq (rInt q 23) 0)) (bNot (iEq (rInt q 23) 1)) false)) then (.inl ()) else (Sum.elim (fun r2 => (.inr (.inl r2))) (fun r3 => (.inl ())) (law36_AffinitySymmetry.w8 (rSl c2 0) (et 40 c3) (et 46 c4) (et 40 q))))))
def z4 (x : Unit) : Bool ⊕ Unit := (.inr ())
def w4 (c0 : Rows) (c2 : Row) (c3 : Row) (c4 : Row) : Bool ⊕ Unit := walk (p4 c2 c3 c4) z4 c0 0 ()
def v (a0 : Row) (a1 : Row) (a2 : Row) : Bool := (let r0 := (law36_SmallView.v (et 58 a0)); (let r1 := bif (bNot (bNot r0)) then (law36_SmallPod.v (et 40 a1)) else default; (let r2 := bif (bNot (bIte (bNot r0) true (bNot r1))) then (law36_SmallNode.v (et 46 a2)) else default; (let r3 := bif (bNot (bIte (bIte (bNot r0) true (bNot r1)) true (bNot r2))) then (affinity_PodFits.v (et 58 a0) (et 40 a1) (et 46 a2)) else default; (bif (bIte (bIte (bIte (bNot r0) true (bNot r1)) true (bNot r2)) true (bNot (iEq r3 0))) then (let r4 := (law36_lives.v ); r4) else (Sum.elim (fun r5 => r5) (fun r6 => (let r7 := (law36_lives.v ); r7)) (law36_AffinitySymmetry.w4 (rSl a0 1) (et 58 a0) (et 40 a1) (et 46 a2))))))))
theorem w8_v (c0 : Rows) (c1 : Int) (c2 : Int) (c3 : Rows) (c4 : Int) (c5 : Row) (c6 : Row) (c7 : Row) (c8 : Row) (hc3 : Brs c3) (hc6 : Br c6) (hc7 : Br c7) (hc8 : Br c8) (ec4 : c4 = rLen c3) (x0 : Unit) (h0 : True) : DV (fun k => iter (s8 k c0 c1 c2 c3 c4 c5 c6 c7 c8) k ((fun (x : Unit) (i : Int) => i) x0 0)) (w8 c3 c6 c7 c8) (Ps Pt Pt) := by
  subst ec4; refine DV.walk (fun (x : Unit) (i : Int) => i) hc3.1 (p8 c6 c7 c8) z8 (fun (i : Int) (x : Unit) => True) (Ps Pt Pt) (fun i x hp hi hI => ?_) (fun i x hie hi hI => ?_) x0 h0
  · have hlt := lt_of hc3.1 hi
    have hle := Int.le_of_lt hlt
    have hin := iIn_lt hp hi
    exact DG.tt hi (DG.tt hin (DG.test (fun h_1 => (DG.bnd (law36_violated.val _ _ _ _ (Br.eta hc6 _) (Br.eta hc8 _) (Br.eta hc7 _) (Br.eta (Brs.at hc3 _) _)) (fun hr0 => (DG.opt (fun h_3 => (law36_violated.val _ _ _ _ (Br.eta hc8 _) (Br.eta hc6 _) (Br.eta (Brs.at hc3 _) _) (Br.eta hc7 _))) (fun _ => trivial) (fun hr1 => (DG.test (fun h_4 => (DG.inr rfl trivial)) (fun h_4 => (DG.inr rfl trivial)))))))) (fun h_1 => (DG.inl rfl trivial))))
  · have hle := eq_le hc3.1 hie
    exact DG.ff hi (DG.ex rfl trivial)
theorem w4_v (c0 : Rows) (c1 : Int) (c2 : Row) (c3 : Row) (c4 : Row) (hc0 : Brs c0) (hc2 : Br c2) (hc3 : Br c3) (hc4 : Br c4) (ec1 : c1 = rLen c0) (x0 : Unit) (h0 : True) : DV (fun k => iter (s4 k c0 c1 c2 c3 c4) k ((fun (x : Unit) (i : Int) => i) x0 0)) (w4 c0 c2 c3 c4) (Ps Pt Pt) := by
  subst ec1; refine DV.walk (fun (x : Unit) (i : Int) => i) hc0.1 (p4 c2 c3 c4) z4 (fun (i : Int) (x : Unit) => True) (Ps Pt Pt) (fun i x hp hi hI => ?_) (fun i x hie hi hI => ?_) x0 h0
  · have hlt := lt_of hc0.1 hi
    have hle := Int.le_of_lt hlt
    have hin := iIn_lt hp hi
    exact DG.tt hi (DG.tt hin (DG.bnd (ref13_KeyOf.val _ (Br.eta (Brs.at hc0 _) _)) (fun hr0 => (DG.bnd (ref13_KeyOf.val _ (Br.eta hc3 _)) (fun hr1 => (DG.test (fun h_3 => (DG.inl rfl trivial)) (fun h_3 => (DG.cas (law36_AffinitySymmetry.w8_v _ _ _ _ _ _ _ _ _ (Br.sl hc2 _) (Br.eta hc3 _) (Br.eta hc4 _) (Br.eta (Brs.at hc0 _) _) rfl () trivial) (fun r2 hr2 => (DG.inr rfl trivial)) (fun r3 hr3 => (DG.inl rfl trivial))))))))))
  · have hle := eq_le hc0.1 hie
    exact DG.ff hi (DG.ex rfl trivial)
theorem val (a0 : Row) (a1 : Row) (a2 : Row) (ha0 : Br a0) (ha1 : Br a1) (ha2 : Br a2) : DV (fun k => (f k a0 a1 a2).eval) (v a0 a1 a2) Pt := (DG.bnd (law36_SmallView.val _ (Br.eta ha0 _)) (fun hr0 => (DG.opt (fun h_2 => (law36_SmallPod.val _ (Br.eta ha1 _))) (fun _ => trivial) (fun hr1 => (DG.opt (fun h_3 => (law36_SmallNode.val _ (Br.eta ha2 _))) (fun _ => trivial) (fun hr2 => (DG.opt (fun h_4 => (affinity_PodFits.val _ _ _ (Br.eta ha0 _) (Br.eta ha1 _) (Br.eta ha2 _))) (fun _ => trivial) (fun hr3 => (DG.test (fun h_5 => (DG.bnd (law36_lives.val ) (fun hr4 => (DG.ret trivial)))) (fun h_5 => (DG.cas (law36_AffinitySymmetry.w4_v _ _ _ _ _ (Br.sl ha0 _) (Br.eta ha0 _) (Br.eta ha1 _) (Br.eta ha2 _) rfl () trivial) (fun r5 hr5 => (DG.ret trivial)) (fun r6 hr6 => (DG.bnd (law36_lives.val ) (fun hr7 => (DG.ret trivial)))))))))))))))
end law36_AffinitySymmetry
namespace law36_AffinityFree
def p6 (c6 : Row) (i : Int) (q : Row) (x : Rows) : (Rows) ⊕ (Rows) := (let r0 := (ref13_KeyOf.v (et 27 q)); (let r1 := (ref13_KeyOf.v (et 27 c6)); (bif (bNot (sEq r0 r1)) then (.inl (rCat x [et 40 q])) else (.inl x))))
def z6 (x : Rows) : Rows := x
def w6 (c0 : Rows) (c6 : Row) (x0 : Rows) : Rows := walk (p6 c6) z6 c0 0 x0
def p15 (i : Int) (q : Row) (x : Rows) : (Rows) ⊕ (Rows) := (.inl (rSet x i (rJ [et 27 (rAt x i), [.str (rStr (rAt x i) 13), .int .i64 (rInt (rAt x i) 14), .int .i64 (rInt (rAt x i) 15), .int .i64 (rInt (rAt x i) 16), .slice 137 (rSl (rAt x i) 17) .open, .slice 94 (rSl (rAt x i) 18) .open, .slice 68 (rSl (rAt x i) 19) .open, .slice 65 [] .open, .slice 143 (rSl (rAt x i) 21) .open, .slice 145 (rSl (rAt x i) 22) .open, .int .i64 (rInt (rAt x i) 23), .bool (rBool (rAt x i) 24), .int .i64 (rInt (rAt x i) 25), .int .i64 (rInt (rAt x i) 26), .int .i64 (rInt (rAt x i) 27), .slice 147 (rSl (rAt x i) 28) .open, .int .i64 (rInt (rAt x i) 29), .str (rStr (rAt x i) 30), .str (rStr (rAt x i) 31)]])))
def z15 (x : Rows) : Rows := x
def w15 (c0 : Int) (x0 : Rows) : Rows := walk p15 z15 (nRows c0) 0 x0
def v (a0 : Row) (a1 : Row) (a2 : Row) : Bool := (let r0 := (law36_SmallView.v (et 58 a0)); (let r1 := bif (bNot (bNot r0)) then (law36_SmallPod.v (et 40 a1)) else default; (let r2 := bif (bNot (bIte (bNot r0) true (bNot r1))) then (law36_SmallNode.v (et 46 a2)) else default; (bif (bIte (bIte (bNot r0) true (bNot r1)) true (bNot r2)) then (let r3 := (law36_lives.v ); r3) else (let r4 := (law36_AffinityFree.w6 (rSl a0 1) (et 40 a1) []); (let r5 := (affinity_PodFits.v (et 58 a0) (et 40 a1) (et 46 a2)); (let r6 := (affinity_PodFits.v [.slice 46 (rSl a0 0) .open, .slice 40 r4 .open, .slice 80 (rSl a0 2) .open, .int .i64 (rInt a0 3)] (et 40 a1) (et 46 a2)); (let r7 := bif (bNot (bNot (iEq r5 r6))) then (affinity_Preference.v (et 58 a0) (et 40 a1) (et 46 a2)) else default; (let r8 := bif (bNot (bNot (iEq r5 r6))) then (affinity_Preference.v [.slice 46 (rSl a0 0) .open, .slice 40 r4 .open, .slice 80 (rSl a0 2) .open, .int .i64 (rInt a0 3)] (et 40 a1) (et 46 a2)) else default; (bif (bIte (bNot (iEq r5 r6)) true (bNot (iEq r7 r8))) then false else (let r9 := (law36_AffinityFree.w15 (rLen r4) r4); (let r10 := (affinity_PodFits.v [.slice 46 (rSl a0 0) .open, .slice 40 (rTake r9 (rLen r4)) .open, .slice 80 (rSl a0 2) .open, .int .i64 (rInt a0 3)] (rJ [et 27 a1, [.str (rStr a1 13), .int .i64 (rInt a1 14), .int .i64 (rInt a1 15), .int .i64 (rInt a1 16), .slice 137 (rSl a1 17) .open, .slice 94 (rSl a1 18) .open, .slice 68 (rSl a1 19) .open, .slice 65 [] .open, .slice 143 (rSl a1 21) .open, .slice 145 (rSl a1 22) .open, .int .i64 (rInt a1 23), .bool (rBool a1 24), .int .i64 (rInt a1 25), .int .i64 (rInt a1 26), .int .i64 (rInt a1 27), .slice 147 (rSl a1 28) .open, .int .i64 (rInt a1 29), .str (rStr a1 30), .str (rStr a1 31)]]) (et 46 a2)); (let r11 := bif (iEq r10 0) then (law36_lives.v ) else default; (bIte (iEq r10 0) r11 false))))))))))))))
theorem w6_v (c0 : Rows) (c1 : Int) (c2 : Rows) (c3 : Rows) (c4 : Int) (c5 : Row) (c6 : Row) (c7 : Row) (hc0 : Brs c0) (hc6 : Br c6) (ec1 : c1 = rLen c0) (x0 : Rows) (h0 : Grow 0 x0) : DV (fun k => iter (s6 k c0 c1 c2 c3 c4 c5 c6 c7) k ((fun (x : Rows) (i : Int) => (i, x)) x0 0)) (w6 c0 c6 x0) Brs := by
  subst ec1; refine DV.walk (fun (x : Rows) (i : Int) => (i, x)) hc0.1 (p6 c6) z6 (fun (i : Int) (x : Rows) => Grow i x) Brs (fun i x hp hi hI => ?_) (fun i x hie hi hI => ?_) x0 h0
  · have hlt := lt_of hc0.1 hi
    have hle := Int.le_of_lt hlt
    have hin := iIn_lt hp hi
    exact DG.tt hi (DG.tt hin (DG.bnd (ref13_KeyOf.val _ (Br.eta (Brs.at hc0 _) _)) (fun hr0 => (DG.bnd (ref13_KeyOf.val _ (Br.eta hc6 _)) (fun hr1 => (DG.test (fun h_3 => (DG.tt (Grow.ok hI hlt (by decide)) (DG.inl rfl (Grow.push hI (Br.eta (Brs.at hc0 _) _))))) (fun h_3 => (DG.inl rfl (Grow.same hI)))))))))
  · have hle := eq_le hc0.1 hie
    exact DG.ff hi (DG.ex rfl (Grow.done hI hle))
theorem w15_v (c0 : Int) (c1 : Rows) (c2 : Int) (c3 : Rows) (c4 : Int) (c5 : Row) (c6 : Row) (hn : 0 ≤ c0 ∧ c0 ≤ 1048576) (ec2 : c2 = c0) (x0 : Rows) (h0 : SetI c0 x0) : DV (fun k => iter (s15 k c0 c1 c2 c3 c4 c5 c6) k ((fun (x : Rows) (i : Int) => (i, x)) x0 0)) (w15 c0 x0) Brs := by
  refine DV.walkN (fun (x : Rows) (i : Int) => (i, x)) hn p15 z15 (fun (i : Int) (x : Rows) => SetI c0 x) Brs (fun i x hp hi hI => ?_) (fun i x hie hi hI => ?_) x0 h0
  · have hlt := ltn_of hn hi
    have hle := Int.le_of_lt hlt
    have hin := iIn_lt hp hi
    exact DG.tt hi (DG.tt (iin_eqn ec2 hp hi) (DG.inl rfl (SetI.set hI (br_rJ (all_cons (Br.eta (Brs.at hI.1 _) _) (all_cons (br_cons (brc_str (Br.str (Brs.at hI.1 _) _)) (br_cons brc_int (br_cons brc_int (br_cons brc_int (br_cons (brc_slice (Br.sl (Brs.at hI.1 _) _)) (br_cons (brc_slice (Br.sl (Brs.at hI.1 _) _)) (br_cons (brc_slice (Br.sl (Brs.at hI.1 _) _)) (br_cons (brc_slice (brs_of (Nat.le_of_ble_eq_true rfl) all_nil)) (br_cons (brc_slice (Br.sl (Brs.at hI.1 _) _)) (br_cons (brc_slice (Br.sl (Brs.at hI.1 _) _)) (br_cons brc_int (br_cons brc_bool (br_cons brc_int (br_cons brc_int (br_cons brc_int (br_cons (brc_slice (Br.sl (Brs.at hI.1 _) _)) (br_cons brc_int (br_cons (brc_str (Br.str (Brs.at hI.1 _) _)) (br_cons (brc_str (Br.str (Brs.at hI.1 _) _)) br_nil))))))))))))))))))) all_nil))) _)))
  · have hle := eqn_le hn hie
    exact DG.ff hi (DG.ex rfl hI.1)
theorem val (a0 : Row) (a1 : Row) (a2 : Row) (ha0 : Br a0) (ha1 : Br a1) (ha2 : Br a2) : DV (fun k => (f k a0 a1 a2).eval) (v a0 a1 a2) Pt := (DG.bnd (law36_SmallView.val _ (Br.eta ha0 _)) (fun hr0 => (DG.opt (fun h_2 => (law36_SmallPod.val _ (Br.eta ha1 _))) (fun _ => trivial) (fun hr1 => (DG.opt (fun h_3 => (law36_SmallNode.val _ (Br.eta ha2 _))) (fun _ => trivial) (fun hr2 => (DG.test (fun h_4 => (DG.bnd (law36_lives.val ) (fun hr3 => (DG.ret trivial)))) (fun h_4 => (DG.bnd (law36_AffinityFree.w6_v _ _ _ _ _ _ _ _ (Br.sl ha0 _) (Br.eta ha1 _) rfl _ Grow.nil) (fun hr4 => (DG.bnd (affinity_PodFits.val _ _ _ (Br.eta ha0 _) (Br.eta ha1 _) (Br.eta ha2 _)) (fun hr5 => (DG.bnd (affinity_PodFits.val _ _ _ (br_cons (brc_slice (Br.sl ha0 _)) (br_cons (brc_slice hr4) (br_cons (brc_slice (Br.sl ha0 _)) (br_cons brc_int br_nil)))) (Br.eta ha1 _) (Br.eta ha2 _)) (fun hr6 => (DG.opt (fun h_9 => (affinity_Preference.val _ _ _ (Br.eta ha0 _) (Br.eta ha1 _) (Br.eta ha2 _))) (fun _ => trivial) (fun hr7 => (DG.opt (fun h_10 => (affinity_Preference.val _ _ _ (br_cons (brc_slice (Br.sl ha0 _)) (br_cons (brc_slice hr4) (br_cons (brc_slice (Br.sl ha0 _)) (br_cons brc_int br_nil)))) (Br.eta ha1 _) (Br.eta ha2 _))) (fun _ => trivial) (fun hr8 => (DG.test (fun h_11 => (DG.ret trivial)) (fun h_11 => (DG.tt (rOk_new (by decide) hr4) (DG.bnd (law36_AffinityFree.w15_v _ _ _ _ _ _ _ ⟨rl_pos _, rl_le hr4⟩ rfl _ ⟨hr4, rfl⟩) (fun hr9 => (DG.bnd (affinity_PodFits.val _ _ _ (br_cons (brc_slice (Br.sl ha0 _)) (br_cons (brc_slice (brs_take hr9 _)) (br_cons (brc_slice (Br.sl ha0 _)) (br_cons brc_int br_nil)))) (br_rJ (all_cons (Br.eta ha1 _) (all_cons (br_cons (brc_str (Br.str ha1 _)) (br_cons brc_int (br_cons brc_int (br_cons brc_int (br_cons (brc_slice (Br.sl ha1 _)) (br_cons (brc_slice (Br.sl ha1 _)) (br_cons (brc_slice (Br.sl ha1 _)) (br_cons (brc_slice (brs_of (Nat.le_of_ble_eq_true rfl) all_nil)) (br_cons (brc_slice (Br.sl ha1 _)) (br_cons (brc_slice (Br.sl ha1 _)) (br_cons brc_int (br_cons brc_bool (br_cons brc_int (br_cons brc_int (br_cons brc_int (br_cons (brc_slice (Br.sl ha1 _)) (br_cons brc_int (br_cons (brc_str (Br.str ha1 _)) (br_cons (brc_str (Br.str ha1 _)) br_nil))))))))))))))))))) all_nil))) (Br.eta ha2 _)) (fun hr10 => (DG.opt (fun h_14 => (law36_lives.val )) (fun _ => trivial) (fun hr11 => (DG.ret trivial))))))))))))))))))))))))))))
end law36_AffinityFree
namespace law36_AffinityTerms
def p10 (c2 : Row) (i : Int) (q : Row) (x : Unit) : (Unit) ⊕ (Bool ⊕ Unit) := (let r0 := bif (rBool q 0) then (ref03_Matches.v (rSl q 1) (rSl c2 9)) else default; (bif (bIte (rBool q 0) (bNot r0) false) then (.inr (.inl false)) else (.inl ())))
def z10 (x : Unit) : Bool ⊕ Unit := (.inr ())
def w10 (c0 : Rows) (c2 : Row) : Bool ⊕ Unit := walk (p10 c2) z10 c0 0 ()
def v (a0 : Row) (a1 : Row) (a2 : Row) (a3 : Row) : Bool := (let r0 := (law36_SmallView.v (et 58 a0)); (let r1 := bif (bNot (bNot r0)) then (law36_SmallPod.v (et 40 a1)) else default; (let r2 := bif (bNot (bIte (bNot r0) true (bNot r1))) then (law36_SmallNode.v (et 46 a2)) else default; (let r3 := bif (bNot (bIte (bIte (bIte (bNot r0) true (bNot r1)) true (bNot r2)) true (iLt 20 (rLen (rSl a3 2))))) then (ref03_ValidSelector.v (rSl a3 2)) else default; (bif (bIte (bIte (bIte (bIte (bNot r0) true (bNot r1)) true (bNot r2)) true (iLt 20 (rLen (rSl a3 2)))) true (bNot r3)) then (let r4 := (law36_lives.v ); r4) else (let r5 := (affinity_PodFits.v (et 58 a0) [.str (rStr a1 0), .str (rStr a1 1), .str (rStr a1 2), .int .i64 (rInt a1 3), .int .i64 (rInt a1 4), .int .i64 (rInt a1 5), .int .i64 (rInt a1 6), .bool (rBool a1 7), .int .i64 (rInt a1 8), .slice 105 (rSl a1 9) .open, .slice 107 (rSl a1 10) .open, .slice 9 (rSl a1 11) .open, .slice 109 (rSl a1 12) .open, .str (rStr a1 13), .int .i64 (rInt a1 14), .int .i64 (rInt a1 15), .int .i64 (rInt a1 16), .slice 137 (rSl a1 17) .open, .slice 94 (rSl a1 18) .open, .slice 68 (rSl a1 19) .open, .slice 65 (rCat (rCat [] (rSl a1 20)) [[.bool true, .bool (rBool a3 1), .slice 94 (rSl a3 2) .open, .str (rStr a3 3), .int .i64 (rInt a3 4)]]) .open, .slice 143 (rSl a1 21) .open, .slice 145 (rSl a1 22) .open, .int .i64 (rInt a1 23), .bool (rBool a1 24), .int .i64 (rInt a1 25), .int .i64 (rInt a1 26), .int .i64 (rInt a1 27), .slice 147 (rSl a1 28) .open, .int .i64 (rInt a1 29), .str (rStr a1 30), .str (rStr a1 31)] (et 46 a2)); (let r6 := bif (iEq r5 0) then (affinity_PodFits.v (et 58 a0) (et 40 a1) (et 46 a2)) else default; (bif (bIte (iEq r5 0) (bNot (iEq r6 0)) false) then false else (let r7 := (affinity_NodeFits.v (eo 35 a1 13) (et 46 a2)); (bif r7 then (Sum.elim (fun r8 => r8) (fun r9 => (let r10 := (law36_lives.v ); r10)) (law36_AffinityTerms.w10 (rSl a1 19) (et 46 a2))) else (let r11 := (law36_lives.v ); r11)))))))))))
theorem w10_v (c0 : Rows) (c1 : Int) (c2 : Row) (hc0 : Brs c0) (hc2 : Br c2) (ec1 : c1 = rLen c0) (x0 : Unit) (h0 : True) : DV (fun k => iter (s10 k c0 c1 c2) k ((fun (x : Unit) (i : Int) => i) x0 0)) (w10 c0 c2) (Ps Pt Pt) := by
  subst ec1; refine DV.walk (fun (x : Unit) (i : Int) => i) hc0.1 (p10 c2) z10 (fun (i : Int) (x : Unit) => True) (Ps Pt Pt) (fun i x hp hi hI => ?_) (fun i x hie hi hI => ?_) x0 h0
  · have hlt := lt_of hc0.1 hi
    have hle := Int.le_of_lt hlt
    have hin := iIn_lt hp hi
    exact DG.tt hi (DG.tt hin (DG.opt (fun h_1 => (ref03_Matches.val _ _ (Br.sl (Brs.at hc0 _) _) (Br.sl hc2 _))) (fun _ => trivial) (fun hr0 => (DG.test (fun h_2 => (DG.inr rfl trivial)) (fun h_2 => (DG.inl rfl trivial))))))
  · have hle := eq_le hc0.1 hie
    exact DG.ff hi (DG.ex rfl trivial)
theorem val (a0 : Row) (a1 : Row) (a2 : Row) (a3 : Row) (ha0 : Br a0) (ha1 : Br a1) (ha2 : Br a2) (ha3 : Br a3) : DV (fun k => (f k a0 a1 a2 a3).eval) (v a0 a1 a2 a3) Pt := (DG.bnd (law36_SmallView.val _ (Br.eta ha0 _)) (fun hr0 => (DG.opt (fun h_2 => (law36_SmallPod.val _ (Br.eta ha1 _))) (fun _ => trivial) (fun hr1 => (DG.opt (fun h_3 => (law36_SmallNode.val _ (Br.eta ha2 _))) (fun _ => trivial) (fun hr2 => (DG.opt (fun h_4 => (ref03_ValidSelector.val _ (Br.sl ha3 _))) (fun _ => trivial) (fun hr3 => (DG.test (fun h_5 => (DG.bnd (law36_lives.val ) (fun hr4 => (DG.ret trivial)))) (fun h_5 => (DG.tt (rOk_two (by decide) (brs_of (Nat.le_of_ble_eq_true rfl) all_nil) (Br.sl ha1 _)) (DG.tt (rOk_two (by decide) (brs_nilcat (Br.sl ha1 _)) (brs_of (Nat.le_of_ble_eq_true rfl) (all_cons (br_cons brc_bool (br_cons brc_bool (br_cons (brc_slice (Br.sl ha3 _)) (br_cons (brc_str (Br.str ha3 _)) (br_cons brc_int br_nil))))) all_nil))) (DG.bnd (affinity_PodFits.val _ _ _ (Br.eta ha0 _) (br_cons (brc_str (Br.str ha1 _)) (br_cons (brc_str (Br.str ha1 _)) (br_cons (brc_str (Br.str ha1 _)) (br_cons brc_int (br_cons brc_int (br_cons brc_int (br_cons brc_int (br_cons brc_bool (br_cons brc_int (br_cons (brc_slice (Br.sl ha1 _)) (br_cons (brc_slice (Br.sl ha1 _)) (br_cons (brc_slice (Br.sl ha1 _)) (br_cons (brc_slice (Br.sl ha1 _)) (br_cons (brc_str (Br.str ha1 _)) (br_cons brc_int (br_cons brc_int (br_cons brc_int (br_cons (brc_slice (Br.sl ha1 _)) (br_cons (brc_slice (Br.sl ha1 _)) (br_cons (brc_slice (Br.sl ha1 _)) (br_cons (brc_slice (brs_push (Br.sl ha1 20) (br_cons brc_bool (br_cons brc_bool (br_cons (brc_slice (Br.sl ha3 _)) (br_cons (brc_str (Br.str ha3 _)) (br_cons brc_int br_nil))))) (smallPod_terms (dflt_true (bnot_f (or_r (or_l (or_l (or_l h_5))))))))) (br_cons (brc_slice (Br.sl ha1 _)) (br_cons (brc_slice (Br.sl ha1 _)) (br_cons brc_int (br_cons brc_bool (br_cons brc_int (br_cons brc_int (br_cons brc_int (br_cons (brc_slice (Br.sl ha1 _)) (br_cons brc_int (br_cons (brc_str (Br.str ha1 _)) (br_cons (brc_str (Br.str ha1 _)) br_nil)))))))))))))))))))))))))))))))) (Br.eta ha2 _)) (fun hr5 => (DG.opt (fun h_8 => (affinity_PodFits.val _ _ _ (Br.eta ha0 _) (Br.eta ha1 _) (Br.eta ha2 _))) (fun _ => trivial) (fun hr6 => (DG.test (fun h_9 => (DG.ret trivial)) (fun h_9 => (DG.bnd (affinity_NodeFits.val _ _ (br_etaL ha1 _ _) (Br.eta ha2 _)) (fun hr7 => (DG.test (fun h_11 => (DG.cas (law36_AffinityTerms.w10_v _ _ _ (Br.sl ha1 _) (Br.eta ha2 _) rfl () trivial) (fun r8 hr8 => (DG.ret trivial)) (fun r9 hr9 => (DG.bnd (law36_lives.val ) (fun hr10 => (DG.ret trivial)))))) (fun h_11 => (DG.bnd (law36_lives.val ) (fun hr11 => (DG.ret trivial)))))))))))))))))))))))))
end law36_AffinityTerms

end
end Go.Proofs.Ytcfaaeipgmokfaa.Ev
