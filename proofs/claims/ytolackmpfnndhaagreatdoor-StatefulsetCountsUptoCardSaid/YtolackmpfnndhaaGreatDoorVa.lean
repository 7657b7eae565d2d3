/- Plain values of the printed functions. Conditions: stated at each. -/
import Derived.Test.YtolackmpfnndhaaGreatDoorPw
import Derived.Test.YtolackmpfnndhaaGreatDoorE1
import Derived.Test.YtolackmpfnndhaaGreatDoorWk
namespace Go.Proofs.YtolackmpfnndhaaGreatDoor.Ev
open Go Go.RowKit
set_option linter.unusedVariables false
set_option maxRecDepth 100000
noncomputable section
namespace law47_heavy
def p2 (i : Int) (q : Row) (x : Unit) : (Unit) ⊕ (Bool ⊕ Unit) := (bif (bIte (iLt 30 (rLen (rSl q 9))) true (iLt 30 (rLen (rSl q 10)))) then (.inr (.inl true)) else (.inl ()))
def z2 (x : Unit) : Bool ⊕ Unit := (.inr ())
def w2 (c0 : Rows) : Bool ⊕ Unit := walk p2 z2 c0 0 ()
def v (a0 : Row) (a1 : Rows) : Bool := (Sum.elim (fun r0 => r0) (fun r1 => (bIte (bIte (bIte (iLt 60 (rLen a1)) true (iLt 16 (rLen (rSl a0 18)))) true (iLt 6 (rLen (rSl a0 23)))) true (iLt 20 (iAdd .i64 (iAdd .i64 (iAdd .i64 (iAdd .i64 (rLen (rSl a0 24)) (rLen (rSl a0 25))) (rLen (rSl a0 26))) (rLen (rSl a0 27))) (rLen (rSl a0 28)))))) (law47_heavy.w2 a1))
theorem w2_v (c0 : Rows) (c1 : Row) (hc0 : Brs c0) (x0 : Unit) (h0 : True) : DV (fun k => iter (s2 k c0 c1) k ((fun (x : Unit) (i : Int) => i) x0 0)) (w2 c0) (Ps Pt Pt) := by
  refine DV.walk (fun (x : Unit) (i : Int) => i) hc0.1 p2 z2 (fun (i : Int) (x : Unit) => True) (Ps Pt Pt) (fun i x hp hi hI => ?_) (fun i x hie hi hI => ?_) x0 h0
  · have hlt := lt_of hc0.1 hi
    have hle := Int.le_of_lt hlt
    have hin := iIn_lt hp hi
    exact DG.tt hi (DG.tt (iIn_lt hp hi) (DG.tt (bimp_ (iIn_lt hp hi)) (DG.test (fun h_1 => (DG.inr rfl trivial)) (fun h_1 => (DG.inl rfl trivial)))))
  · have hle := eq_le hc0.1 hie
    exact DG.ff hi (DG.ex rfl trivial)
theorem val (a0 : Row) (a1 : Rows) (ha1 : Brs a1) : DV (fun k => (f k a0 a1).eval) (v a0 a1) Pt := (DG.cas (law47_heavy.w2_v _ _ ha1 () trivial) (fun r0 hr0 => (DG.ret trivial)) (fun r1 hr1 => (DG.ret trivial)))
end law47_heavy
namespace meta_Controller
def p2 (i : Int) (q : Row) (x : Unit) : (Unit) ⊕ ((Bool × Row) ⊕ Unit) := (bif (rBool q 3) then (.inr (.inl (true, et 86 q))) else (.inl ()))
def z2 (x : Unit) : (Bool × Row) ⊕ Unit := (.inr ())
def w2 (c0 : Rows) : (Bool × Row) ⊕ Unit := walk p2 z2 c0 0 ()
def v (a0 : Row) : (Row × Bool) := (Sum.elim (fun r0 => (et 86 r0.2, r0.1)) (fun r1 => ([.str ByteArray.empty, .str ByteArray.empty, .int .i64 0, .bool false, .bool false], false)) (meta_Controller.w2 (rSl a0 10)))
theorem w2_v (c0 : Rows) (c1 : Int) (c2 : Row) (hc0 : Brs c0) (ec1 : c1 = rLen c0) (x0 : Unit) (h0 : True) : DV (fun k => iter (s2 k c0 c1 c2) k ((fun (x : Unit) (i : Int) => i) x0 0)) (w2 c0) (Ps (Pp Pt Br) Pt) := by
  subst ec1; refine DV.walk (fun (x : Unit) (i : Int) => i) hc0.1 p2 z2 (fun (i : Int) (x : Unit) => True) (Ps (Pp Pt Br) Pt) (fun i x hp hi hI => ?_) (fun i x hie hi hI => ?_) x0 h0
  · have hlt := lt_of hc0.1 hi
    have hle := Int.le_of_lt hlt
    have hin := iIn_lt hp hi
    exact DG.tt hi (DG.tt hin (DG.test (fun h_1 => (DG.inr rfl ⟨trivial, (Br.eta (Brs.at hc0 _) _)⟩)) (fun h_1 => (DG.inl rfl trivial))))
  · have hle := eq_le hc0.1 hie
    exact DG.ff hi (DG.ex rfl trivial)
theorem val (a0 : Row) (ha0 : Br a0) : DV (fun k => (f k a0).eval) (v a0) (Pp Br Pt) := (DG.cas (meta_Controller.w2_v _ _ _ (Br.sl ha0 _) rfl () trivial) (fun r0 hr0 => (DG.ret ⟨(Br.eta hr0.2 _), trivial⟩)) (fun r1 hr1 => (DG.ret ⟨(br_cons (brc_str (Nat.le_trans (@Nat.le_of_ble_eq_true _ 0 rfl) (Nat.le_of_ble_eq_true rfl))) (br_cons (brc_str (Nat.le_trans (@Nat.le_of_ble_eq_true _ 0 rfl) (Nat.le_of_ble_eq_true rfl))) (br_cons brc_int (br_cons brc_bool (br_cons brc_bool br_nil))))), trivial⟩)))
end meta_Controller
namespace label_Get
def p2 (c0 : ByteArray) (i : Int) (q : Row) (x : Unit) : (Unit) ⊕ ((ByteArray × Bool) ⊕ Unit) := (bif (sEq (rStr q 0) c0) then (.inr (.inl (rStr q 1, true))) else (.inl ()))
def z2 (x : Unit) : (ByteArray × Bool) ⊕ Unit := (.inr ())
def w2 (c0 : ByteArray) (c1 : Rows) : (ByteArray × Bool) ⊕ Unit := walk (p2 c0) z2 c1 0 ()
def v (a0 : Rows) (a1 : ByteArray) : (ByteArray × Bool) := (Sum.elim (fun r0 => (r0.1, r0.2)) (fun r1 => (ByteArray.empty, false)) (label_Get.w2 a1 a0))
theorem w2_v (c0 : ByteArray) (c1 : Rows) (c2 : Int) (hc1 : Brs c1) (ec2 : c2 = rLen c1) (x0 : Unit) (h0 : True) : DV (fun k => iter (s2 k c0 c1 c2) k ((fun (x : Unit) (i : Int) => i) x0 0)) (w2 c0 c1) (Ps (Pp (Sz 1048576) Pt) Pt) := by
  subst ec2; refine DV.walk (fun (x : Unit) (i : Int) => i) hc1.1 (p2 c0) z2 (fun (i : Int) (x : Unit) => True) (Ps (Pp (Sz 1048576) Pt) Pt) (fun i x hp hi hI => ?_) (fun i x hie hi hI => ?_) x0 h0
  · have hlt := lt_of hc1.1 hi
    have hle := Int.le_of_lt hlt
    have hin := iIn_lt hp hi
    exact DG.tt hi (DG.tt hin (DG.test (fun h_1 => (DG.inr rfl ⟨(Br.str (Brs.at hc1 _) _), trivial⟩)) (fun h_1 => (DG.inl rfl trivial))))
  · have hle := eq_le hc1.1 hie
    exact DG.ff hi (DG.ex rfl trivial)
theorem val (a0 : Rows) (a1 : ByteArray) (ha0 : Brs a0) : DV (fun k => (f k a0 a1).eval) (v a0 a1) (Pp (Sz 1048576) Pt) := (DG.cas (label_Get.w2_v _ _ _ ha0 rfl () trivial) (fun r0 hr0 => (DG.ret ⟨hr0.1, trivial⟩)) (fun r1 hr1 => (DG.ret ⟨(Nat.le_trans (@Nat.le_of_ble_eq_true _ 0 rfl) (Nat.le_of_ble_eq_true rfl)), trivial⟩)))
end label_Get
namespace pod_Active
def v (a0 : Row) : Bool := (bIte (bIte (iEq (rInt a0 23) 0) true (iEq (rInt a0 23) 1)) (bNot (rBool a0 7)) false)
theorem val (a0 : Row) : DV (fun k => (f k a0).eval) (v a0) Pt := (DG.ret trivial)
end pod_Active
namespace pod_clamp
def v (a0 : Int) : Int := (iMin (iMax a0 0) 1000000000000)
theorem val (a0 : Int) : DV (fun k => (f k a0).eval) (v a0) Pt := (DG.ret trivial)
end pod_clamp
namespace pod_Available
def v (a0 : Row) (a1 : Int) (a2 : Int) : Bool := (let r0 := (pod_Active.v (et 61 a0)); (let r1 := bif (bIte r0 (rBool a0 24) false) then (pod_clamp.v a2) else default; (let r2 := bif (bIte r0 (rBool a0 24) false) then (pod_clamp.v (rInt a0 25)) else default; (let r3 := bif (bIte r0 (rBool a0 24) false) then (pod_clamp.v a1) else default; (bIte (bIte r0 (rBool a0 24) false) (iLe r3 (iSub .i64 r1 r2)) false)))))
theorem val (a0 : Row) (a1 : Int) (a2 : Int) : DV (fun k => (f k a0 a1 a2).eval) (v a0 a1 a2) Pt := (DG.bnd (pod_Active.val _) (fun hr0 => (DG.opt (fun h_2 => (pod_clamp.val _)) (fun _ => trivial) (fun hr1 => (DG.opt (fun h_3 => (pod_clamp.val _)) (fun _ => trivial) (fun hr2 => (DG.opt (fun h_4 => (pod_clamp.val _)) (fun _ => trivial) (fun hr3 => (DG.ret trivial)))))))))
end pod_Available
namespace meta_Key
def v (a0 : ByteArray) (a1 : ByteArray) (a2 : ByteArray) : ByteArray := (sCat (sCat (sCat (sCat a0 (bs [47])) a1) (bs [47])) a2)
theorem val (a0 : ByteArray) (a1 : ByteArray) (a2 : ByteArray) (ha0 : Sz 1048576 a0) (ha1 : Sz 1048576 a1) (ha2 : Sz 1048576 a2) : DV (fun k => (f k a0 a1 a2).eval) (v a0 a1 a2) (Sz 3145730) := (DG.tt (sOk_sz ha0 (@Nat.le_of_ble_eq_true _ 1 rfl) (by decide)) (DG.tt (sOk_sz (sz_cat ha0 (@Nat.le_of_ble_eq_true _ 1 rfl)) ha1 (by decide)) (DG.tt (sOk_sz (sz_cat (sz_cat ha0 (@Nat.le_of_ble_eq_true _ 1 rfl)) ha1) (@Nat.le_of_ble_eq_true _ 1 rfl) (by decide)) (DG.tt (sOk_sz (sz_cat (sz_cat (sz_cat ha0 (@Nat.le_of_ble_eq_true _ 1 rfl)) ha1) (@Nat.le_of_ble_eq_true _ 1 rfl)) ha2 (by decide)) (DG.ret (sz_cat (sz_cat (sz_cat (sz_cat ha0 (@Nat.le_of_ble_eq_true _ 1 rfl)) ha1) (@Nat.le_of_ble_eq_true _ 1 rfl)) ha2))))))
end meta_Key
namespace meta_KeyOf
def v (a0 : Row) : ByteArray := (let r0 := (meta_Key.v (rStr a0 0) (rStr a0 1) (rStr a0 2)); r0)
theorem val (a0 : Row) (ha0 : Br a0) : DV (fun k => (f k a0).eval) (v a0) (Sz 3145730) := (DG.bnd (meta_Key.val _ _ _ (Br.str ha0 _) (Br.str ha0 _) (Br.str ha0 _)) (fun hr0 => (DG.ret hr0)))
end meta_KeyOf
namespace statefulset_bounds
def v (a0 : Row) : (Int × Int) := (iMin (iMax (rInt a0 13) 0) 40, iMin (iMax (rInt a0 14) 0) (iMin (iMax (rInt a0 13) 0) 40))
theorem val (a0 : Row) : DV (fun k => (f k a0).eval) (v a0) (Pp Pt Pt) := (DG.ret ⟨trivial, trivial⟩)
end statefulset_bounds
namespace statefulset_settled_1
def v (a0 : Row) : Bool := (bIte (rBool a0 0) (bNot (rBool a0 1)) false)
theorem val (a0 : Row) : DV (fun k => (f k a0).eval) (v a0) Pt := (DG.ret trivial)
end statefulset_settled_1
namespace slices_IndexFunc_statefulset_slot_statefulset_slot_c65
def p2 (i : Int) (q : Row) (x : Unit) : (Unit) ⊕ (Int ⊕ Unit) := (let r0 := (statefulset_settled_1.v (et 80 q)); (bif r0 then (.inr (.inl i)) else (.inl ())))
def z2 (x : Unit) : Int ⊕ Unit := (.inr ())
def w2 (c0 : Rows) : Int ⊕ Unit := walk p2 z2 c0 0 ()
def v (a0 : Rows) : Int := (Sum.elim (fun r0 => r0) (fun r1 => (-1)) (slices_IndexFunc_statefulset_slot_statefulset_slot_c65.w2 a0))
theorem w2_v (c0 : Rows) (c1 : Int) (hc0 : Brs c0) (ec1 : c1 = rLen c0) (x0 : Unit) (h0 : True) : DV (fun k => iter (s2 k c0 c1) k ((fun (x : Unit) (i : Int) => i) x0 0)) (w2 c0) (Ps Pt Pt) := by
  subst ec1; refine DV.walk (fun (x : Unit) (i : Int) => i) hc0.1 p2 z2 (fun (i : Int) (x : Unit) => True) (Ps Pt Pt) (fun i x hp hi hI => ?_) (fun i x hie hi hI => ?_) x0 h0
  · have hlt := lt_of hc0.1 hi
    have hle := Int.le_of_lt hlt
    have hin := iIn_lt hp hi
    exact DG.tt hi (DG.tt hin (DG.bnd (statefulset_settled_1.val _) (fun hr0 => (DG.test (fun h_2 => (DG.inr rfl trivial)) (fun h_2 => (DG.inl rfl trivial))))))
  · have hle := eq_le hc0.1 hie
    exact DG.ff hi (DG.ex rfl trivial)
theorem val (a0 : Rows) (ha0 : Brs a0) : DV (fun k => (f k a0).eval) (v a0) Pt := (DG.cas (slices_IndexFunc_statefulset_slot_statefulset_slot_c65.w2_v _ _ ha0 rfl () trivial) (fun r0 hr0 => (DG.ret trivial)) (fun r1 hr1 => (DG.ret trivial)))
end slices_IndexFunc_statefulset_slot_statefulset_slot_c65
namespace slices_ContainsFunc_statefulset_slot_statefulset_slot_c65
def v (a0 : Rows) : Bool := (let r0 := (slices_IndexFunc_statefulset_slot_statefulset_slot_c65.v a0); (iLe 0 r0))
theorem val (a0 : Rows) (ha0 : Brs a0) : DV (fun k => (f k a0).eval) (v a0) Pt := (DG.bnd (slices_IndexFunc_statefulset_slot_statefulset_slot_c65.val _ ha0) (fun hr0 => (DG.ret trivial)))
end slices_ContainsFunc_statefulset_slot_statefulset_slot_c65
namespace statefulset_settled
def v (a0 : Rows) : Bool := (let r0 := (slices_ContainsFunc_statefulset_slot_statefulset_slot_c65.v a0); (bNot r0))
theorem val (a0 : Rows) (ha0 : Brs a0) : DV (fun k => (f k a0).eval) (v a0) Pt := (DG.bnd (slices_ContainsFunc_statefulset_slot_statefulset_slot_c65.val _ ha0) (fun hr0 => (DG.ret trivial)))
end statefulset_settled
namespace ref13_Controller
def p2 (i : Int) (q : Row) (x : Unit) : (Unit) ⊕ ((Bool × Row) ⊕ Unit) := (bif (rBool q 3) then (.inr (.inl (true, et 86 q))) else (.inl ()))
def z2 (x : Unit) : (Bool × Row) ⊕ Unit := (.inr ())
def w2 (c0 : Row) : (Bool × Row) ⊕ Unit := walk p2 z2 (rSl c0 10) 0 ()
def v (a0 : Row) : (Row × Bool) := (Sum.elim (fun r0 => (et 86 r0.2, r0.1)) (fun r1 => ([.str ByteArray.empty, .str ByteArray.empty, .int .i64 0, .bool false, .bool false], false)) (ref13_Controller.w2 (et 27 a0)))
theorem w2_v (c0 : Row) (c1 : Row) (hc0 : Br c0) (x0 : Unit) (h0 : True) : DV (fun k => iter (s2 k c0 c1) k ((fun (x : Unit) (i : Int) => i) x0 0)) (w2 c0) (Ps (Pp Pt Br) Pt) := by
  refine DV.walk (fun (x : Unit) (i : Int) => i) (Br.sl hc0 _).1 p2 z2 (fun (i : Int) (x : Unit) => True) (Ps (Pp Pt Br) Pt) (fun i x hp hi hI => ?_) (fun i x hie hi hI => ?_) x0 h0
  · have hlt := lt_of (Br.sl hc0 _).1 hi
    have hle := Int.le_of_lt hlt
    have hin := iIn_lt hp hi
    exact DG.tt hi (DG.tt (iIn_lt hp hi) (DG.test (fun h_1 => (DG.tt (iIn_lt hp hi) (DG.inr rfl ⟨trivial, (Br.eta (Brs.at (Br.sl hc0 _) _) _)⟩))) (fun h_1 => (DG.inl rfl trivial))))
  · have hle := eq_le (Br.sl hc0 _).1 hie
    exact DG.ff hi (DG.ex rfl trivial)
theorem val (a0 : Row) (ha0 : Br a0) : DV (fun k => (f k a0).eval) (v a0) (Pp Br Pt) := (DG.cas (ref13_Controller.w2_v _ _ (Br.eta ha0 _) () trivial) (fun r0 hr0 => (DG.ret ⟨(Br.eta hr0.2 _), trivial⟩)) (fun r1 hr1 => (DG.ret ⟨(br_cons (brc_str (Nat.le_trans (@Nat.le_of_ble_eq_true _ 0 rfl) (Nat.le_of_ble_eq_true rfl))) (br_cons (brc_str (Nat.le_trans (@Nat.le_of_ble_eq_true _ 0 rfl) (Nat.le_of_ble_eq_true rfl))) (br_cons brc_int (br_cons brc_bool (br_cons brc_bool br_nil))))), trivial⟩)))
end ref13_Controller
namespace ref44_Controls
def v (a0 : Row) (a1 : Row) : Bool := (let r0 := (ref13_Controller.v (et 27 a1)); (bIte (bIte r0.2 (iEq (rInt r0.1 2) (rInt a0 3)) false) (sEq (rStr a1 1) (rStr a0 1)) false))
theorem val (a0 : Row) (a1 : Row) (ha1 : Br a1) : DV (fun k => (f k a0 a1).eval) (v a0 a1) Pt := (DG.bnd (ref13_Controller.val _ (Br.eta ha1 _)) (fun hr0 => (DG.ret trivial)))
end ref44_Controls
namespace ref47_Finished
def v (a0 : Row) : Bool := (bIte (iEq (rInt a0 23) 2) true (iEq (rInt a0 23) 3))
theorem val (a0 : Row) : DV (fun k => (f k a0).eval) (v a0) Pt := (DG.ret trivial)
end ref47_Finished
namespace ref13_Key
def v (a0 : ByteArray) (a1 : ByteArray) (a2 : ByteArray) : ByteArray := (sCat (sCat (sCat (sCat a0 (bs [47])) a1) (bs [47])) a2)
theorem val (a0 : ByteArray) (a1 : ByteArray) (a2 : ByteArray) (ha0 : Sz 1048576 a0) (ha1 : Sz 1048576 a1) (ha2 : Sz 1048576 a2) : DV (fun k => (f k a0 a1 a2).eval) (v a0 a1 a2) (Sz 3145730) := (DG.tt (sOk_sz ha0 (@Nat.le_of_ble_eq_true _ 1 rfl) (by decide)) (DG.tt (sOk_sz (sz_cat ha0 (@Nat.le_of_ble_eq_true _ 1 rfl)) ha1 (by decide)) (DG.tt (sOk_sz (sz_cat (sz_cat ha0 (@Nat.le_of_ble_eq_true _ 1 rfl)) ha1) (@Nat.le_of_ble_eq_true _ 1 rfl) (by decide)) (DG.tt (sOk_sz (sz_cat (sz_cat (sz_cat ha0 (@Nat.le_of_ble_eq_true _ 1 rfl)) ha1) (@Nat.le_of_ble_eq_true _ 1 rfl)) ha2 (by decide)) (DG.ret (sz_cat (sz_cat (sz_cat (sz_cat ha0 (@Nat.le_of_ble_eq_true _ 1 rfl)) ha1) (@Nat.le_of_ble_eq_true _ 1 rfl)) ha2))))))
end ref13_Key
namespace ref13_KeyOf
def v (a0 : Row) : ByteArray := (let r0 := (ref13_Key.v (rStr a0 0) (rStr a0 1) (rStr a0 2)); r0)
theorem val (a0 : Row) (ha0 : Br a0) : DV (fun k => (f k a0).eval) (v a0) (Sz 3145730) := (DG.bnd (ref13_Key.val _ _ _ (Br.str ha0 _) (Br.str ha0 _) (Br.str ha0 _)) (fun hr0 => (DG.ret hr0)))
end ref13_KeyOf
namespace ref33_clamp
def v (a0 : Int) (a1 : Int) : Int := (bif (iLt a0 0) then 0 else (bif (iLt a1 a0) then a1 else a0))
theorem val (a0 : Int) (a1 : Int) : DV (fun k => (f k a0 a1).eval) (v a0 a1) Pt := (DG.test (fun h_1 => (DG.ret trivial)) (fun h_1 => (DG.test (fun h_2 => (DG.ret trivial)) (fun h_2 => (DG.ret trivial)))))
end ref33_clamp
namespace ref33_Active
def v (a0 : Row) : Bool := (bIte (bIte (iEq (rInt a0 23) 0) true (iEq (rInt a0 23) 1)) (bNot (rBool a0 7)) false)
theorem val (a0 : Row) : DV (fun k => (f k a0).eval) (v a0) Pt := (DG.ret trivial)
end ref33_Active
namespace ref33_Available
def v (a0 : Row) (a1 : Int) (a2 : Int) : Bool := (let r0 := (ref33_clamp.v a2 1000000000000); (let r1 := (ref33_clamp.v (rInt a0 25) 1000000000000); (let r2 := (ref33_Active.v (et 61 a0)); (let r3 := bif (bIte r2 (rBool a0 24) false) then (ref33_clamp.v a1 1000000000000) else default; (bIte (bIte r2 (rBool a0 24) false) (iLe r3 (iSub .i64 r0 r1)) false)))))
theorem val (a0 : Row) (a1 : Int) (a2 : Int) : DV (fun k => (f k a0 a1 a2).eval) (v a0 a1 a2) Pt := (DG.bnd (ref33_clamp.val _ _) (fun hr0 => (DG.bnd (ref33_clamp.val _ _) (fun hr1 => (DG.bnd (ref33_Active.val _) (fun hr2 => (DG.opt (fun h_4 => (ref33_clamp.val _ _)) (fun _ => trivial) (fun hr3 => (DG.ret trivial)))))))))
end ref33_Available
namespace ref01_Clamp
def v (a0 : Int) (a1 : Int) (a2 : Int) : Int := (iMin (iMax a0 a1) a2)
theorem val (a0 : Int) (a1 : Int) (a2 : Int) : DV (fun k => (f k a0 a1 a2).eval) (v a0 a1 a2) Pt := (DG.ret trivial)
end ref01_Clamp
theorem clamp_ne (a : Int) : bNot (iEq (ref01_Clamp.v a 1 1000000000000000) 0) = true := by
  have h : 1 ≤ ref01_Clamp.v a 1 1000000000000000 := by
    show 1 ≤ iMin (iMax a 1) 1000000000000000
    unfold iMin iMax
    split <;> (try split) <;> omega
  have : iEq (ref01_Clamp.v a 1 1000000000000000) 0 = false := beq_eq_false_iff_ne.2 (by omega)
  rw [this]; rfl
namespace ref10_Has
def p2 (c1 : ByteArray) (i : Int) (q : Row) (x : Unit) : (Unit) ⊕ (Bool ⊕ Unit) := (bif (sEq (rStr q 0) c1) then (.inr (.inl true)) else (.inl ()))
def z2 (x : Unit) : Bool ⊕ Unit := (.inr ())
def w2 (c0 : Rows) (c1 : ByteArray) : Bool ⊕ Unit := walk (p2 c1) z2 c0 0 ()
def v (a0 : Rows) (a1 : ByteArray) : Bool := (Sum.elim (fun r0 => r0) (fun r1 => false) (ref10_Has.w2 a0 a1))
theorem w2_v (c0 : Rows) (c1 : ByteArray) (hc0 : Brs c0) (x0 : Unit) (h0 : True) : DV (fun k => iter (s2 k c0 c1) k ((fun (x : Unit) (i : Int) => i) x0 0)) (w2 c0 c1) (Ps Pt Pt) := by
  refine DV.walk (fun (x : Unit) (i : Int) => i) hc0.1 (p2 c1) z2 (fun (i : Int) (x : Unit) => True) (Ps Pt Pt) (fun i x hp hi hI => ?_) (fun i x hie hi hI => ?_) x0 h0
  · have hlt := lt_of hc0.1 hi
    have hle := Int.le_of_lt hlt
    have hin := iIn_lt hp hi
    exact DG.tt hi (DG.tt (iIn_lt hp hi) (DG.test (fun h_1 => (DG.inr rfl trivial)) (fun h_1 => (DG.inl rfl trivial))))
  · have hle := eq_le hc0.1 hie
    exact DG.ff hi (DG.ex rfl trivial)
theorem val (a0 : Rows) (a1 : ByteArray) (ha0 : Brs a0) : DV (fun k => (f k a0 a1).eval) (v a0 a1) Pt := (DG.cas (ref10_Has.w2_v _ _ ha0 () trivial) (fun r0 hr0 => (DG.ret trivial)) (fun r1 hr1 => (DG.ret trivial)))
end ref10_Has
namespace ref03_Get
def p2 (c1 : ByteArray) (i : Int) (q : Row) (x : Unit) : (Unit) ⊕ ((ByteArray × Bool) ⊕ Unit) := (bif (sEq (rStr q 0) c1) then (.inr (.inl (rStr q 1, true))) else (.inl ()))
def z2 (x : Unit) : (ByteArray × Bool) ⊕ Unit := (.inr ())
def w2 (c0 : Rows) (c1 : ByteArray) : (ByteArray × Bool) ⊕ Unit := walk (p2 c1) z2 c0 0 ()
def v (a0 : Rows) (a1 : ByteArray) : (ByteArray × Bool) := (Sum.elim (fun r0 => (r0.1, r0.2)) (fun r1 => (ByteArray.empty, false)) (ref03_Get.w2 a0 a1))
theorem w2_v (c0 : Rows) (c1 : ByteArray) (hc0 : Brs c0) (x0 : Unit) (h0 : True) : DV (fun k => iter (s2 k c0 c1) k ((fun (x : Unit) (i : Int) => i) x0 0)) (w2 c0 c1) (Ps (Pp (Sz 1048576) Pt) Pt) := by
  refine DV.walk (fun (x : Unit) (i : Int) => i) hc0.1 (p2 c1) z2 (fun (i : Int) (x : Unit) => True) (Ps (Pp (Sz 1048576) Pt) Pt) (fun i x hp hi hI => ?_) (fun i x hie hi hI => ?_) x0 h0
  · have hlt := lt_of hc0.1 hi
    have hle := Int.le_of_lt hlt
    have hin := iIn_lt hp hi
    exact DG.tt hi (DG.tt (iIn_lt hp hi) (DG.test (fun h_1 => (DG.tt (iIn_lt hp hi) (DG.inr rfl ⟨(Br.str (Brs.at hc0 _) _), trivial⟩))) (fun h_1 => (DG.inl rfl trivial))))
  · have hle := eq_le hc0.1 hie
    exact DG.ff hi (DG.ex rfl trivial)
theorem val (a0 : Rows) (a1 : ByteArray) (ha0 : Brs a0) : DV (fun k => (f k a0 a1).eval) (v a0 a1) (Pp (Sz 1048576) Pt) := (DG.cas (ref03_Get.w2_v _ _ ha0 () trivial) (fun r0 hr0 => (DG.ret ⟨hr0.1, trivial⟩)) (fun r1 hr1 => (DG.ret ⟨(Nat.le_trans (@Nat.le_of_ble_eq_true _ 0 rfl) (Nat.le_of_ble_eq_true rfl)), trivial⟩)))
end ref03_Get

end
end Go.Proofs.YtolackmpfnndhaaGreatDoor.Ev
