/- Plain values of the printed functions. Conditions: stated at each. -/
import Derived.Test.YthnkchbcinlnnaaGreatDoorPw
import Derived.Test.YthnkchbcinlnnaaGreatDoorE1
import Derived.Test.YthnkchbcinlnnaaGreatDoorPf
import Derived.Test.YthnkchbcinlnnaaGreatDoorWk
namespace Go.Proofs.YthnkchbcinlnnaaGreatDoor.Ev
open Go Go.RowKit
set_option linter.unusedVariables false
set_option maxRecDepth 100000
noncomputable section
namespace law19_SmallPod
noncomputable def v (a0 : Row) : Bool := lim (fun k => (f k a0).eval)
theorem val (a0 : Row) (ha0 : Br a0) : DV (fun k => (f k a0).eval) (v a0) Pt := DV.lim (dd a0 ha0)
end law19_SmallPod
namespace pod_done
def v (a0 : Int) (a1 : Row) : Bool := (bIte (iEq (rInt a1 1) 2) (bIte (iEq a0 2) true (bIte (iEq a0 1) (iEq (rInt a1 3) 0) false)) false)
theorem val (a0 : Int) (a1 : Row) : DV (fun k => (f k a0 a1).eval) (v a0 a1) Pt := (DG.ret trivial)
end pod_done
namespace pod_Phase
def p3 (c0 : Int) (i : Int) (q : Row) (x : Bool × Bool × Bool) : (Bool × Bool × Bool) ⊕ (Bool × Bool × Bool) := (let r0 := bif x.1 then (pod_done.v c0 (et 63 q)) else default; (.inl ((bIte x.1 r0 false), (bIte x.2.1 true (bNot (iEq (rInt q 3) 0))), (bIte (bIte (bIte x.2.2 true (iEq (rInt q 1) 1)) true (iEq (rInt q 1) 2)) true (iLt 0 (rInt q 2))))))
def z3 (x : Bool × Bool × Bool) : Bool × Bool × Bool := (x.1, x.2.1, x.2.2)
def w3 (c0 : Int) (c1 : Rows) (x0 : Bool × Bool × Bool) : Bool × Bool × Bool := walk (p3 c0) z3 c1 0 x0
def v (a0 : Int) (a1 : Rows) : Int := (let r0 := (pod_Phase.w3 a0 a1 ((iLt 0 (rLen a1)), false, false)); (bif (bIte r0.1 r0.2.1 false) then 3 else (bif r0.1 then 2 else (bif r0.2.2 then 1 else 0))))
theorem w3_v (c0 : Int) (c1 : Rows) (c2 : Int) (hc1 : Brs c1) (ec2 : c2 = rLen c1) (x0 : Bool × Bool × Bool) (h0 : True ∧ True ∧ True) : DV (fun k => iter (s3 k c0 c1 c2) k ((fun (x : Bool × Bool × Bool) (i : Int) => (x.1, x.2.1, x.2.2, i)) x0 0)) (w3 c0 c1 x0) (Pp Pt (Pp Pt Pt)) := by
  subst ec2; refine DV.walk (fun (x : Bool × Bool × Bool) (i : Int) => (x.1, x.2.1, x.2.2, i)) hc1.1 (p3 c0) z3 (fun (i : Int) (x : Bool × Bool × Bool) => True ∧ True ∧ True) (Pp Pt (Pp Pt Pt)) (fun i x hp hi hI => ?_) (fun i x hie hi hI => ?_) x0 h0
  · have hlt := lt_of hc1.1 hi
    have hle := Int.le_of_lt hlt
    have hin := iIn_lt hp hi
    exact DG.tt hi (DG.tt hin (DG.opt (fun h_1 => (pod_done.val _ _)) (fun _ => trivial) (fun hr0 => (DG.inl rfl ⟨trivial, ⟨trivial, trivial⟩⟩))))
  · have hle := eq_le hc1.1 hie
    exact DG.ff hi (DG.ex rfl ⟨trivial, ⟨trivial, trivial⟩⟩)
theorem val (a0 : Int) (a1 : Rows) (ha1 : Brs a1) : DV (fun k => (f k a0 a1).eval) (v a0 a1) Pt := (DG.bnd (pod_Phase.w3_v _ _ _ ha1 rfl _ ⟨trivial, ⟨trivial, trivial⟩⟩) (fun hr0 => (DG.test (fun h_2 => (DG.ret trivial)) (fun h_2 => (DG.test (fun h_3 => (DG.ret trivial)) (fun h_3 => (DG.test (fun h_4 => (DG.ret trivial)) (fun h_4 => (DG.ret trivial)))))))))
end pod_Phase
namespace pod_Active
def v (a0 : Row) : Bool := (bIte (bIte (iEq (rInt a0 23) 0) true (iEq (rInt a0 23) 1)) (bNot (rBool a0 7)) false)
theorem val (a0 : Row) : DV (fun k => (f k a0).eval) (v a0) Pt := (DG.ret trivial)
end pod_Active
namespace pod_clamp
def v (a0 : Int) : Int := (iMin (iMax a0 0) 1000000000000)
theorem val (a0 : Int) : DV (fun k => (f k a0).eval) (v a0) Pt := (DG.ret trivial)
end pod_clamp
namespace pod_Available
def v (a0 : Row) (a1 : Int) (a2 : Int) : Bool := (let r0 := (pod_Active.v (et 40 a0)); (let r1 := bif (bIte r0 (rBool a0 24) false) then (pod_clamp.v a2) else default; (let r2 := bif (bIte r0 (rBool a0 24) false) then (pod_clamp.v (rInt a0 25)) else default; (let r3 := bif (bIte r0 (rBool a0 24) false) then (pod_clamp.v a1) else default; (bIte (bIte r0 (rBool a0 24) false) (iLe r3 (iSub .i64 r1 r2)) false)))))
theorem val (a0 : Row) (a1 : Int) (a2 : Int) : DV (fun k => (f k a0 a1 a2).eval) (v a0 a1 a2) Pt := (DG.bnd (pod_Active.val _) (fun hr0 => (DG.opt (fun h_2 => (pod_clamp.val _)) (fun _ => trivial) (fun hr1 => (DG.opt (fun h_3 => (pod_clamp.val _)) (fun _ => trivial) (fun hr2 => (DG.opt (fun h_4 => (pod_clamp.val _)) (fun _ => trivial) (fun hr3 => (DG.ret trivial)))))))))
end pod_Available
namespace pod_restarts
def p3 (i : Int) (q : Row) (x : Int) : (Int) ⊕ (Int) := (.inl (iAdd .i64 x (iMin (iMax (rInt q 2) 0) 1000000000000000)))
def z3 (x : Int) : Int := x
def w3 (c0 : Rows) (x0 : Int) : Int := walk p3 z3 c0 0 x0
def v (a0 : Row) : Int := (let r0 := (pod_restarts.w3 (rSl a0 28) 0); r0)
theorem w3_v (c0 : Rows) (c1 : Int) (hc0 : Brs c0) (ec1 : c1 = rLen c0) (x0 : Int) (h0 : True) : DV (fun k => iter (s3 k c0 c1) k ((fun (x : Int) (i : Int) => (x, i)) x0 0)) (w3 c0 x0) Pt := by
  subst ec1; refine DV.walk (fun (x : Int) (i : Int) => (x, i)) hc0.1 p3 z3 (fun (i : Int) (x : Int) => True) Pt (fun i x hp hi hI => ?_) (fun i x hie hi hI => ?_) x0 h0
  · have hlt := lt_of hc0.1 hi
    have hle := Int.le_of_lt hlt
    have hin := iIn_lt hp hi
    exact DG.tt hi (DG.tt hin (DG.inl rfl trivial))
  · have hle := eq_le hc0.1 hie
    exact DG.ff hi (DG.ex rfl trivial)
theorem val (a0 : Row) (ha0 : Br a0) : DV (fun k => (f k a0).eval) (v a0) Pt := (DG.bnd (pod_restarts.w3_v _ _ (Br.sl ha0 _) rfl _ trivial) (fun hr0 => (DG.ret trivial)))
end pod_restarts
namespace meta_Key
def v (a0 : ByteArray) (a1 : ByteArray) (a2 : ByteArray) : ByteArray := (sCat (sCat (sCat (sCat a0 (bs [47])) a1) (bs [47])) a2)
theorem val (a0 : ByteArray) (a1 : ByteArray) (a2 : ByteArray) (ha0 : Sz 1048576 a0) (ha1 : Sz 1048576 a1) (ha2 : Sz 1048576 a2) : DV (fun k => (f k a0 a1 a2).eval) (v a0 a1 a2) (Sz 3145730) := (DG.tt (sOk_sz ha0 (@Nat.le_of_ble_eq_true _ 1 rfl) (by decide)) (DG.tt (sOk_sz (sz_cat ha0 (@Nat.le_of_ble_eq_true _ 1 rfl)) ha1 (by decide)) (DG.tt (sOk_sz (sz_cat (sz_cat ha0 (@Nat.le_of_ble_eq_true _ 1 rfl)) ha1) (@Nat.le_of_ble_eq_true _ 1 rfl) (by decide)) (DG.tt (sOk_sz (sz_cat (sz_cat (sz_cat ha0 (@Nat.le_of_ble_eq_true _ 1 rfl)) ha1) (@Nat.le_of_ble_eq_true _ 1 rfl)) ha2 (by decide)) (DG.ret (sz_cat (sz_cat (sz_cat (sz_cat ha0 (@Nat.le_of_ble_eq_true _ 1 rfl)) ha1) (@Nat.le_of_ble_eq_true _ 1 rfl)) ha2))))))
end meta_Key
namespace meta_KeyOf
def v (a0 : Row) : ByteArray := (let r0 := (meta_Key.v (rStr a0 0) (rStr a0 1) (rStr a0 2)); r0)
theorem val (a0 : Row) (ha0 : Br a0) : DV (fun k => (f k a0).eval) (v a0) (Sz 3145730) := (DG.bnd (meta_Key.val _ _ _ (Br.str ha0 _) (Br.str ha0 _) (Br.str ha0 _)) (fun hr0 => (DG.ret hr0)))
end meta_KeyOf
namespace pod_Less
def v (a0 : Row) (a1 : Row) : Bool := (bif (bNot (bEq (sEq (rStr a0 13) ByteArray.empty) (sEq (rStr a1 13) ByteArray.empty))) then (sEq (rStr a0 13) ByteArray.empty) else (bif (bNot (iEq (rInt a0 23) (rInt a1 23))) then (iLt (rInt a0 23) (rInt a1 23)) else (bif (bNot (bEq (rBool a0 24) (rBool a1 24))) then (bNot (rBool a0 24)) else (bif (bIte (rBool a0 24) (bNot (iEq (rInt a0 25) (rInt a1 25))) false) then (iLt (rInt a1 25) (rInt a0 25)) else (let r0 := (pod_restarts.v (et 40 a0)); (let r1 := (pod_restarts.v (et 40 a1)); (bif (bNot (iEq r0 r1)) then (let r2 := (pod_restarts.v (et 40 a0)); (let r3 := (pod_restarts.v (et 40 a1)); (iLt r3 r2))) else (bif (bNot (iEq (rInt a0 6) (rInt a1 6))) then (iLt (rInt a1 6) (rInt a0 6)) else (let r4 := (meta_KeyOf.v (et 28 a0)); (let r5 := (meta_KeyOf.v (et 28 a1)); (sLt r4 r5)))))))))))
theorem val (a0 : Row) (a1 : Row) (ha0 : Br a0) (ha1 : Br a1) : DV (fun k => (f k a0 a1).eval) (v a0 a1) Pt := (DG.test (fun h_1 => (DG.ret trivial)) (fun h_1 => (DG.test (fun h_2 => (DG.ret trivial)) (fun h_2 => (DG.test (fun h_3 => (DG.ret trivial)) (fun h_3 => (DG.test (fun h_4 => (DG.ret trivial)) (fun h_4 => (DG.bnd (pod_restarts.val _ (Br.eta ha0 _)) (fun hr0 => (DG.bnd (pod_restarts.val _ (Br.eta ha1 _)) (fun hr1 => (DG.test (fun h_7 => (DG.bnd (pod_restarts.val _ (Br.eta ha0 _)) (fun hr2 => (DG.bnd (pod_restarts.val _ (Br.eta ha1 _)) (fun hr3 => (DG.ret trivial)))))) (fun h_7 => (DG.test (fun h_10 => (DG.ret trivial)) (fun h_10 => (DG.bnd (meta_KeyOf.val _ (Br.eta ha0 _)) (fun hr4 => (DG.bnd (meta_KeyOf.val _ (Br.eta ha1 _)) (fun hr5 => (DG.ret trivial)))))))))))))))))))))
end pod_Less
namespace law33_lv
theorem true_ : (law33_lives.f 1000).eval = some true := by kernel_rfl
def v : Bool := true
theorem val : DV (fun k => (f k).eval) v Pt := ⟨true, ⟨rfl, trivial⟩, 0, fun k _ => true_⟩
end law33_lv
namespace ref33_done
def v (a0 : Int) (a1 : Row) : Bool := (bIte (iEq (rInt a1 1) 2) (bIte (iEq a0 2) true (bIte (iEq a0 1) (iEq (rInt a1 3) 0) false)) false)
theorem val (a0 : Int) (a1 : Row) : DV (fun k => (f k a0 a1).eval) (v a0 a1) Pt := (DG.ret trivial)
end ref33_done
namespace ref33_Phase
def p5 (c0 : Int) (i : Int) (q : Row) (x : Bool × Bool × Bool) : (Bool × Bool × Bool) ⊕ (Bool × Bool × Bool) := (let r0 := bif x.1 then (ref33_done.v c0 (et 63 q)) else default; (.inl ((bIte x.1 r0 false), (bIte x.2.1 true (bNot (iEq (rInt q 3) 0))), (bIte (bIte (bIte x.2.2 true (iEq (rInt q 1) 1)) true (iEq (rInt q 1) 2)) true (iLt 0 (rInt q 2))))))
def z5 (x : Bool × Bool × Bool) : Bool × Bool × Bool := (x.1, x.2.1, x.2.2)
def w5 (c0 : Int) (c1 : Rows) (x0 : Bool × Bool × Bool) : Bool × Bool × Bool := walk (p5 c0) z5 c1 0 x0
def v (a0 : Int) (a1 : Rows) : Int := (let r0 := (ref33_Phase.w5 a0 a1 ((iLt 0 (rLen a1)), false, false)); (bif (bIte r0.1 r0.2.1 false) then 3 else (bif r0.1 then 2 else (bif r0.2.2 then 1 else 0))))
theorem w5_v (c0 : Int) (c1 : Rows) (hc1 : Brs c1) (x0 : Bool × Bool × Bool) (h0 : True ∧ True ∧ True) : DV (fun k => iter (s5 k c0 c1) k ((fun (x : Bool × Bool × Bool) (i : Int) => (x.1, x.2.1, x.2.2, i)) x0 0)) (w5 c0 c1 x0) (Pp Pt (Pp Pt Pt)) := by
  refine DV.walk (fun (x : Bool × Bool × Bool) (i : Int) => (x.1, x.2.1, x.2.2, i)) hc1.1 (p5 c0) z5 (fun (i : Int) (x : Bool × Bool × Bool) => True ∧ True ∧ True) (Pp Pt (Pp Pt Pt)) (fun i x hp hi hI => ?_) (fun i x hie hi hI => ?_) x0 h0
  · have hlt := lt_of hc1.1 hi
    have hle := Int.le_of_lt hlt
    have hin := iIn_lt hp hi
    exact DG.tt hi (DG.tt (bimp_ (iIn_lt hp hi)) (DG.opt (fun h_1 => (ref33_done.val _ _)) (fun _ => trivial) (fun hr0 => (DG.tt (bimp_ (iIn_lt hp hi)) (DG.tt (bimp_ (iIn_lt hp hi)) (DG.tt (bimp_ (iIn_lt hp hi)) (DG.tt (bimp_ (iIn_lt hp hi)) (DG.inl rfl ⟨trivial, ⟨trivial, trivial⟩⟩))))))))
  · have hle := eq_le hc1.1 hie
    exact DG.ff hi (DG.ex rfl ⟨trivial, ⟨trivial, trivial⟩⟩)
theorem val (a0 : Int) (a1 : Rows) (ha1 : Brs a1) : DV (fun k => (f k a0 a1).eval) (v a0 a1) Pt := (DG.bnd (ref33_Phase.w5_v _ _ ha1 _ ⟨trivial, ⟨trivial, trivial⟩⟩) (fun hr0 => (DG.test (fun h_2 => (DG.ret trivial)) (fun h_2 => (DG.test (fun h_3 => (DG.ret trivial)) (fun h_3 => (DG.test (fun h_4 => (DG.ret trivial)) (fun h_4 => (DG.ret trivial)))))))))
end ref33_Phase
namespace ref33_Active
def v (a0 : Row) : Bool := (bIte (bIte (iEq (rInt a0 23) 0) true (iEq (rInt a0 23) 1)) (bNot (rBool a0 7)) false)
theorem val (a0 : Row) : DV (fun k => (f k a0).eval) (v a0) Pt := (DG.ret trivial)
end ref33_Active
namespace ref33_clamp
def v (a0 : Int) (a1 : Int) : Int := (bif (iLt a0 0) then 0 else (bif (iLt a1 a0) then a1 else a0))
theorem val (a0 : Int) (a1 : Int) : DV (fun k => (f k a0 a1).eval) (v a0 a1) Pt := (DG.test (fun h_1 => (DG.ret trivial)) (fun h_1 => (DG.test (fun h_2 => (DG.ret trivial)) (fun h_2 => (DG.ret trivial)))))
end ref33_clamp
namespace ref33_Available
def v (a0 : Row) (a1 : Int) (a2 : Int) : Bool := (let r0 := (ref33_clamp.v a2 1000000000000); (let r1 := (ref33_clamp.v (rInt a0 25) 1000000000000); (let r2 := (ref33_Active.v (et 40 a0)); (let r3 := bif (bIte r2 (rBool a0 24) false) then (ref33_clamp.v a1 1000000000000) else default; (bIte (bIte r2 (rBool a0 24) false) (iLe r3 (iSub .i64 r0 r1)) false)))))
theorem val (a0 : Row) (a1 : Int) (a2 : Int) : DV (fun k => (f k a0 a1 a2).eval) (v a0 a1 a2) Pt := (DG.bnd (ref33_clamp.val _ _) (fun hr0 => (DG.bnd (ref33_clamp.val _ _) (fun hr1 => (DG.bnd (ref33_Active.val _) (fun hr2 => (DG.opt (fun h_4 => (ref33_clamp.val _ _)) (fun _ => trivial) (fun hr3 => (DG.ret trivial)))))))))
end ref33_Available
namespace law33_PodPhase
def v (a0 : Int) (a1 : Rows) (a2 : Row) (a3 : Int) (a4 : Int) : Bool := (let r0 := bif (bNot (iLt 40 (rLen a1))) then (law19_SmallPod.v (et 40 a2)) else default; (bif (bIte (iLt 40 (rLen a1)) true (bNot r0)) then (let r1 := (law33_lv.v ); r1) else (let r2 := (pod_Phase.v a0 a1); (let r3 := (ref33_Phase.v a0 a1); (let r4 := bif (iEq r2 r3) then (pod_Active.v (et 40 a2)) else default; (let r5 := bif (iEq r2 r3) then (ref33_Active.v (et 40 a2)) else default; (let r6 := bif (bIte (iEq r2 r3) (bEq r4 r5) false) then (pod_Available.v (et 40 a2) a3 a4) else default; (let r7 := bif (bIte (iEq r2 r3) (bEq r4 r5) false) then (ref33_Available.v (et 40 a2) a3 a4) else default; (let r8 := bif (bIte (bIte (iEq r2 r3) (bEq r4 r5) false) (bEq r6 r7) false) then (law33_lv.v ) else default; (bIte (bIte (bIte (iEq r2 r3) (bEq r4 r5) false) (bEq r6 r7) false) r8 false))))))))))
theorem val (a0 : Int) (a1 : Rows) (a2 : Row) (a3 : Int) (a4 : Int) (ha1 : Brs a1) (ha2 : Br a2) : DV (fun k => (f k a0 a1 a2 a3 a4).eval) (v a0 a1 a2 a3 a4) Pt := (DG.opt (fun h_1 => (law19_SmallPod.val _ (Br.eta ha2 _))) (fun _ => trivial) (fun hr0 => (DG.test (fun h_2 => (DG.bnd (law33_lv.val ) (fun hr1 => (DG.ret trivial)))) (fun h_2 => (DG.bnd (pod_Phase.val _ _ ha1) (fun hr2 => (DG.bnd (ref33_Phase.val _ _ ha1) (fun hr3 => (DG.opt (fun h_6 => (pod_Active.val _)) (fun _ => trivial) (fun hr4 => (DG.opt (fun h_7 => (ref33_Active.val _)) (fun _ => trivial) (fun hr5 => (DG.opt (fun h_8 => (pod_Available.val _ _ _)) (fun _ => trivial) (fun hr6 => (DG.opt (fun h_9 => (ref33_Available.val _ _ _)) (fun _ => trivial) (fun hr7 => (DG.opt (fun h_10 => (law33_lv.val )) (fun _ => trivial) (fun hr8 => (DG.ret trivial)))))))))))))))))))
end law33_PodPhase
namespace law33_PodPhases
def p5 (c0 : Int) (i : Int) (q : Row) (x : Bool × Bool) : (Bool × Bool) ⊕ (Bool × Bool) := (.inl ((bIte (bIte x.1 (iEq (rInt q 1) 2) false) (bIte (iEq c0 2) true (iEq (rInt q 3) 0)) false), (bIte x.2 true (bNot (iEq (rInt q 3) 0)))))
def z5 (x : Bool × Bool) : Bool × Bool := (x.1, x.2)
def w5 (c0 : Int) (c2 : Rows) (x0 : Bool × Bool) : Bool × Bool := walk (p5 c0) z5 c2 0 x0
def v (a0 : Int) (a1 : Rows) : Bool := (bif (iLt 40 (rLen a1)) then (let r0 := (law33_lv.v ); r0) else (let r1 := (law33_PodPhases.w5 a0 a1 ((bIte (iLt 0 (rLen a1)) (bIte (iEq a0 2) true (iEq a0 1)) false), false)); (let r2 := (pod_Phase.v a0 a1); (bif (bIte (bNot (bEq (bIte (iEq r2 2) true (iEq r2 3)) r1.1)) true (bIte r1.1 (bNot (bEq (iEq r2 3) r1.2)) false)) then false else (let r3 := (pod_Phase.v 0 a1); (let r4 := bif (bIte (iEq r3 0) true (iEq r3 1)) then (law33_lv.v ) else default; (bIte (bIte (iEq r3 0) true (iEq r3 1)) r4 false)))))))
theorem w5_v (c0 : Int) (c1 : Rows) (c2 : Rows) (c3 : Int) (hc2 : Brs c2) (ec3 : c3 = rLen c2) (x0 : Bool × Bool) (h0 : True ∧ True) : DV (fun k => iter (s5 k c0 c1 c2 c3) k ((fun (x : Bool × Bool) (i : Int) => (x.1, x.2, i)) x0 0)) (w5 c0 c2 x0) (Pp Pt Pt) := by
  subst ec3; refine DV.walk (fun (x : Bool × Bool) (i : Int) => (x.1, x.2, i)) hc2.1 (p5 c0) z5 (fun (i : Int) (x : Bool × Bool) => True ∧ True) (Pp Pt Pt) (fun i x hp hi hI => ?_) (fun i x hie hi hI => ?_) x0 h0
  · have hlt := lt_of hc2.1 hi
    have hle := Int.le_of_lt hlt
    have hin := iIn_lt hp hi
    exact DG.tt hi (DG.tt hin (DG.inl rfl ⟨trivial, trivial⟩))
  · have hle := eq_le hc2.1 hie
    exact DG.ff hi (DG.ex rfl ⟨trivial, trivial⟩)
theorem val (a0 : Int) (a1 : Rows) (ha1 : Brs a1) : DV (fun k => (f k a0 a1).eval) (v a0 a1) Pt := (DG.test (fun h_1 => (DG.bnd (law33_lv.val ) (fun hr0 => (DG.ret trivial)))) (fun h_1 => (DG.bnd (law33_PodPhases.w5_v _ _ _ _ ha1 rfl _ ⟨trivial, trivial⟩) (fun hr1 => (DG.bnd (pod_Phase.val _ _ ha1) (fun hr2 => (DG.test (fun h_5 => (DG.ret trivial)) (fun h_5 => (DG.bnd (pod_Phase.val _ _ ha1) (fun hr3 => (DG.opt (fun h_7 => (law33_lv.val )) (fun _ => trivial) (fun hr4 => (DG.ret trivial)))))))))))))
end law33_PodPhases
namespace ref33_restarts
def p3 (i : Int) (q : Row) (x : Int) : (Int) ⊕ (Int) := (let r0 := (ref33_clamp.v (rInt q 2) 1000000000000000); (.inl (iAdd .i64 x r0)))
def z3 (x : Int) : Int := x
def w3 (c0 : Row) (x0 : Int) : Int := walk p3 z3 (rSl c0 28) 0 x0
def v (a0 : Row) : Int := (let r0 := (ref33_restarts.w3 (et 40 a0) 0); r0)
theorem w3_v (c0 : Row) (hc0 : Br c0) (x0 : Int) (h0 : True) : DV (fun k => iter (s3 k c0) k ((fun (x : Int) (i : Int) => (x, i)) x0 0)) (w3 c0 x0) Pt := by
  refine DV.walk (fun (x : Int) (i : Int) => (x, i)) (Br.sl hc0 _).1 p3 z3 (fun (i : Int) (x : Int) => True) Pt (fun i x hp hi hI => ?_) (fun i x hie hi hI => ?_) x0 h0
  · have hlt := lt_of (Br.sl hc0 _).1 hi
    have hle := Int.le_of_lt hlt
    have hin := iIn_lt hp hi
    exact DG.tt hi (DG.tt (iIn_lt hp hi) (DG.bnd (ref33_clamp.val _ _) (fun hr0 => (DG.inl rfl trivial))))
  · have hle := eq_le (Br.sl hc0 _).1 hie
    exact DG.ff hi (DG.ex rfl trivial)
theorem val (a0 : Row) (ha0 : Br a0) : DV (fun k => (f k a0).eval) (v a0) Pt := (DG.bnd (ref33_restarts.w3_v _ (Br.eta ha0 _) _ trivial) (fun hr0 => (DG.ret trivial)))
end ref33_restarts
namespace ref13_Key
def v (a0 : ByteArray) (a1 : ByteArray) (a2 : ByteArray) : ByteArray := (sCat (sCat (sCat (sCat a0 (bs [47])) a1) (bs [47])) a2)
theorem val (a0 : ByteArray) (a1 : ByteArray) (a2 : ByteArray) (ha0 : Sz 1048576 a0) (ha1 : Sz 1048576 a1) (ha2 : Sz 1048576 a2) : DV (fun k => (f k a0 a1 a2).eval) (v a0 a1 a2) (Sz 3145730) := (DG.tt (sOk_sz ha0 (@Nat.le_of_ble_eq_true _ 1 rfl) (by decide)) (DG.tt (sOk_sz (sz_cat ha0 (@Nat.le_of_ble_eq_true _ 1 rfl)) ha1 (by decide)) (DG.tt (sOk_sz (sz_cat (sz_cat ha0 (@Nat.le_of_ble_eq_true _ 1 rfl)) ha1) (@Nat.le_of_ble_eq_true _ 1 rfl) (by decide)) (DG.tt (sOk_sz (sz_cat (sz_cat (sz_cat ha0 (@Nat.le_of_ble_eq_true _ 1 rfl)) ha1) (@Nat.le_of_ble_eq_true _ 1 rfl)) ha2 (by decide)) (DG.ret (sz_cat (sz_cat (sz_cat (sz_cat ha0 (@Nat.le_of_ble_eq_true _ 1 rfl)) ha1) (@Nat.le_of_ble_eq_true _ 1 rfl)) ha2))))))
end ref13_Key
namespace ref13_KeyOf
def v (a0 : Row) : ByteArray := (let r0 := (ref13_Key.v (rStr a0 0) (rStr a0 1) (rStr a0 2)); r0)
theorem val (a0 : Row) (ha0 : Br a0) : DV (fun k => (f k a0).eval) (v a0) (Sz 3145730) := (DG.bnd (ref13_Key.val _ _ _ (Br.str ha0 _) (Br.str ha0 _) (Br.str ha0 _)) (fun hr0 => (DG.ret hr0)))
end ref13_KeyOf
namespace ref33_Less
def v (a0 : Row) (a1 : Row) : Bool := (bif (bNot (bEq (sEq (rStr a0 13) ByteArray.empty) (sEq (rStr a1 13) ByteArray.empty))) then (sEq (rStr a0 13) ByteArray.empty) else (bif (bNot (iEq (rInt a0 23) (rInt a1 23))) then (iLt (rInt a0 23) (rInt a1 23)) else (bif (bNot (bEq (rBool a0 24) (rBool a1 24))) then (bNot (rBool a0 24)) else (bif (bIte (rBool a0 24) (bNot (iEq (rInt a0 25) (rInt a1 25))) false) then (iLt (rInt a1 25) (rInt a0 25)) else (let r0 := (ref33_restarts.v (et 40 a0)); (let r1 := (ref33_restarts.v (et 40 a1)); (bif (bNot (iEq r0 r1)) then (let r2 := (ref33_restarts.v (et 40 a0)); (let r3 := (ref33_restarts.v (et 40 a1)); (iLt r3 r2))) else (bif (bNot (iEq (rInt a0 6) (rInt a1 6))) then (iLt (rInt a1 6) (rInt a0 6)) else (let r4 := (ref13_KeyOf.v (et 28 a0)); (let r5 := (ref13_KeyOf.v (et 28 a1)); (sLt r4 r5)))))))))))
theorem val (a0 : Row) (a1 : Row) (ha0 : Br a0) (ha1 : Br a1) : DV (fun k => (f k a0 a1).eval) (v a0 a1) Pt := (DG.test (fun h_1 => (DG.ret trivial)) (fun h_1 => (DG.test (fun h_2 => (DG.ret trivial)) (fun h_2 => (DG.test (fun h_3 => (DG.ret trivial)) (fun h_3 => (DG.test (fun h_4 => (DG.ret trivial)) (fun h_4 => (DG.bnd (ref33_restarts.val _ (Br.eta ha0 _)) (fun hr0 => (DG.bnd (ref33_restarts.val _ (Br.eta ha1 _)) (fun hr1 => (DG.test (fun h_7 => (DG.bnd (ref33_restarts.val _ (Br.eta ha0 _)) (fun hr2 => (DG.bnd (ref33_restarts.val _ (Br.eta ha1 _)) (fun hr3 => (DG.ret trivial)))))) (fun h_7 => (DG.test (fun h_10 => (DG.ret trivial)) (fun h_10 => (DG.bnd (ref13_KeyOf.val _ (Br.eta ha0 _)) (fun hr4 => (DG.bnd (ref13_KeyOf.val _ (Br.eta ha1 _)) (fun hr5 => (DG.ret trivial)))))))))))))))))))))
end ref33_Less
namespace law33_PodOrder
def v (a0 : Row) (a1 : Row) : Bool := (let r0 := (law19_SmallPod.v (et 40 a0)); (let r1 := bif (bNot (bNot r0)) then (law19_SmallPod.v (et 40 a1)) else default; (bif (bIte (bIte (bIte (bNot r0) true (bNot r1)) true (iLt 40 (rLen (rSl a0 28)))) true (iLt 40 (rLen (rSl a1 28)))) then (let r2 := (law33_lv.v ); r2) else (let r3 := (pod_Less.v (et 40 a0) (et 40 a1)); (let r4 := (ref33_Less.v (et 40 a0) (et 40 a1)); (let r5 := bif (bEq r3 r4) then (law33_lv.v ) else default; (bIte (bEq r3 r4) r5 false)))))))
theorem val (a0 : Row) (a1 : Row) (ha0 : Br a0) (ha1 : Br a1) : DV (fun k => (f k a0 a1).eval) (v a0 a1) Pt := (DG.bnd (law19_SmallPod.val _ (Br.eta ha0 _)) (fun hr0 => (DG.opt (fun h_2 => (law19_SmallPod.val _ (Br.eta ha1 _))) (fun _ => trivial) (fun hr1 => (DG.test (fun h_3 => (DG.bnd (law33_lv.val ) (fun hr2 => (DG.ret trivial)))) (fun h_3 => (DG.bnd (pod_Less.val _ _ (Br.eta ha0 _) (Br.eta ha1 _)) (fun hr3 => (DG.bnd (ref33_Less.val _ _ (Br.eta ha0 _) (Br.eta ha1 _)) (fun hr4 => (DG.opt (fun h_7 => (law33_lv.val )) (fun _ => trivial) (fun hr5 => (DG.ret trivial)))))))))))))
end law33_PodOrder
namespace law33_PodRank
def p2 (i : Int) (q : Row) (x : Unit) : (Unit) ⊕ (Bool ⊕ Unit) := (let r0 := (law19_SmallPod.v (et 40 q)); (bif (bIte (bNot r0) true (iLt 40 (rLen (rSl q 28)))) then (let r1 := (law33_lv.v ); (.inr (.inl r1))) else (.inl ())))
def z2 (x : Unit) : Bool ⊕ Unit := (.inr ())
def w2 (c0 : Rows) : Bool ⊕ Unit := walk p2 z2 c0 0 ()
def v (a0 : Row) (a1 : Row) (a2 : Row) : Bool := (Sum.elim (fun r0 => r0) (fun r1 => (let r2 := (pod_Less.v (et 40 a0) (et 40 a0)); (let r3 := bif (bNot r2) then (pod_Less.v (et 40 a0) (et 40 a1)) else default; (let r4 := bif (bAnd (bNot r2) r3) then (pod_Less.v (et 40 a1) (et 40 a0)) else default; (let r5 := bif (bNot (bIte r2 true (bIte r3 r4 false))) then (pod_Less.v (et 40 a0) (et 40 a1)) else default; (let r6 := bif (bAnd (bNot (bIte r2 true (bIte r3 r4 false))) r5) then (pod_Less.v (et 40 a1) (et 40 a2)) else default; (let r7 := bif (bAnd (bNot (bIte r2 true (bIte r3 r4 false))) (bIte r5 r6 false)) then (pod_Less.v (et 40 a0) (et 40 a2)) else default; (bif (bIte (bIte r2 true (bIte r3 r4 false)) true (bIte (bIte r5 r6 false) (bNot r7) false)) then false else (let r8 := (pod_Less.v (et 40 a0) (et 40 a2)); (let r9 := bif r8 then (pod_Less.v (et 40 a0) (et 40 a1)) else default; (let r10 := bif (bIte r8 (bNot r9) false) then (pod_Less.v (et 40 a1) (et 40 a2)) else default; (bif (bIte (bIte r8 (bNot r9) false) (bNot r10) false) then false else (let r11 := (ref13_KeyOf.v (et 28 a0)); (let r12 := (ref13_KeyOf.v (et 28 a1)); (let r13 := bif (bNot (sEq r11 r12)) then (pod_Less.v (et 40 a0) (et 40 a1)) else default; (let r14 := bif (bIte (bNot (sEq r11 r12)) (bNot r13) false) then (pod_Less.v (et 40 a1) (et 40 a0)) else default; (bif (bIte (bIte (bNot (sEq r11 r12)) (bNot r13) false) (bNot r14) false) then false else (let r15 := bif (bIte (bIte (bIte (bIte (bNot (sEq (rStr a0 13) ByteArray.empty)) (bNot (sEq (rStr a1 13) ByteArray.empty)) false) (iEq (rInt a0 23) (rInt a1 23)) false) (bNot (rBool a0 24)) false) (rBool a1 24) false) then (pod_Less.v (et 40 a0) (et 40 a1)) else default; (bif (bIte (bIte (bIte (bIte (bIte (bNot (sEq (rStr a0 13) ByteArray.empty)) (bNot (sEq (rStr a1 13) ByteArray.empty)) false) (iEq (rInt a0 23) (rInt a1 23)) false) (bNot (rBool a0 24)) false) (rBool a1 24) false) (bNot r15) false) then false else (let r16 := (law33_lv.v ); r16)))))))))))))))))))) (law33_PodRank.w2 [et 40 a0, et 40 a1, et 40 a2]))
theorem w2_v (c0 : Rows) (c1 : Int) (c2 : Row) (c3 : Row) (c4 : Row) (hc0 : Brs c0) (ec1 : c1 = rLen c0) (x0 : Unit) (h0 : True) : DV (fun k => iter (s2 k c0 c1 c2 c3 c4) k ((fun (x : Unit) (i : Int) => i) x0 0)) (w2 c0) (Ps Pt Pt) := by
  subst ec1; refine DV.walk (fun (x : Unit) (i : Int) => i) hc0.1 p2 z2 (fun (i : Int) (x : Unit) => True) (Ps Pt Pt) (fun i x hp hi hI => ?_) (fun i x hie hi hI => ?_) x0 h0
  · have hlt := lt_of hc0.1 hi
    have hle := Int.le_of_lt hlt
    have hin := iIn_lt hp hi
    exact DG.tt hi (DG.tt hin (DG.bnd (law19_SmallPod.val _ (Br.eta (Brs.at hc0 _) _)) (fun hr0 => (DG.test (fun h_2 => (DG.bnd (law33_lv.val ) (fun hr1 => (DG.inr rfl trivial)))) (fun h_2 => (DG.inl rfl trivial))))))
  · have hle := eq_le hc0.1 hie
    exact DG.ff hi (DG.ex rfl trivial)
theorem val (a0 : Row) (a1 : Row) (a2 : Row) (ha0 : Br a0) (ha1 : Br a1) (ha2 : Br a2) : DV (fun k => (f k a0 a1 a2).eval) (v a0 a1 a2) Pt := (DG.cas (law33_PodRank.w2_v _ _ _ _ _ (brs_of (Nat.le_of_ble_eq_true rfl) (all_cons (Br.eta ha0 _) (all_cons (Br.eta ha1 _) (all_cons (Br.eta ha2 _) all_nil)))) rfl () trivial) (fun r0 hr0 => (DG.ret trivial)) (fun r1 hr1 => (DG.bnd (pod_Less.val _ _ (Br.eta ha0 _) (Br.eta ha0 _)) (fun hr2 => (DG.opt (fun h_2 => (pod_Less.val _ _ (Br.eta ha0 _) (Br.eta ha1 _))) (fun _ => trivial) (fun hr3 => (DG.opt (fun h_3 => (pod_Less.val _ _ (Br.eta ha1 _) (Br.eta ha0 _))) (fun _ => trivial) (fun hr4 => (DG.opt (fun h_4 => (pod_Less.val _ _ (Br.eta ha0 _) (Br.eta ha1 _))) (fun _ => trivial) (fun hr5 => (DG.opt (fun h_5 => (pod_Less.val _ _ (Br.eta ha1 _) (Br.eta ha2 _))) (fun _ => trivial) (fun hr6 => (DG.opt (fun h_6 => (pod_Less.val _ _ (Br.eta ha0 _) (Br.eta ha2 _))) (fun _ => trivial) (fun hr7 => (DG.test (fun h_7 => (DG.ret trivial)) (fun h_7 => (DG.bnd (pod_Less.val _ _ (Br.eta ha0 _) (Br.eta ha2 _)) (fun hr8 => (DG.opt (fun h_9 => (pod_Less.val _ _ (Br.eta ha0 _) (Br.eta ha1 _))) (fun _ => trivial) (fun hr9 => (DG.opt (fun h_10 => (pod_Less.val _ _ (Br.eta ha1 _) (Br.eta ha2 _))) (fun _ => trivial) (fun hr10 => (DG.test (fun h_11 => (DG.ret trivial)) (fun h_11 => (DG.bnd (ref13_KeyOf.val _ (Br.eta ha0 _)) (fun hr11 => (DG.bnd (ref13_KeyOf.val _ (Br.eta ha1 _)) (fun hr12 => (DG.opt (fun h_14 => (pod_Less.val _ _ (Br.eta ha0 _) (Br.eta ha1 _))) (fun _ => trivial) (fun hr13 => (DG.opt (fun h_15 => (pod_Less.val _ _ (Br.eta ha1 _) (Br.eta ha0 _))) (fun _ => trivial) (fun hr14 => (DG.test (fun h_16 => (DG.ret trivial)) (fun h_16 => (DG.opt (fun h_17 => (pod_Less.val _ _ (Br.eta ha0 _) (Br.eta ha1 _))) (fun _ => trivial) (fun hr15 => (DG.test (fun h_18 => (DG.ret trivial)) (fun h_18 => (DG.bnd (law33_lv.val ) (fun hr16 => (DG.ret trivial)))))))))))))))))))))))))))))))))))))))))
end law33_PodRank

end
end Go.Proofs.YthnkchbcinlnnaaGreatDoor.Ev
