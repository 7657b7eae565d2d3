/- Plain values of the printed functions. Conditions: stated at each. -/
import Derived.Test.YtohhdiifohhghaaPw
import Derived.Test.YtohhdiifohhghaaE0
import Derived.Test.YtohhdiifohhghaaWk
import Derived.Test.YtohhdiifohhghaaMp
namespace Go.Proofs.Ytohhdiifohhghaa.Ev
open Go Go.RowKit
set_option linter.unusedVariables false
set_option maxRecDepth 100000
noncomputable section
namespace law37_wide
def p2 (i : Int) (q : Row) (x : Unit) : (Unit) ⊕ (Bool ⊕ Unit) := (bif (iLt 40 (rLen (rSl q 2))) then (.inr (.inl true)) else (.inl ()))
def z2 (x : Unit) : Bool ⊕ Unit := (.inr ())
def w2 (c0 : Rows) : Bool ⊕ Unit := walk p2 z2 c0 0 ()
def v (a0 : Rows) : Bool := (Sum.elim (fun r0 => r0) (fun r1 => (iLt 20 (rLen a0))) (law37_wide.w2 a0))
theorem w2_v (c0 : Rows) (hc0 : Brs c0) (x0 : Unit) (h0 : True) : DV (fun k => iter (s2 k c0) k ((fun (x : Unit) (i : Int) => i) x0 0)) (w2 c0) (Ps Pt Pt) := by
  refine DV.walk (fun (x : Unit) (i : Int) => i) hc0.1 p2 z2 (fun (i : Int) (x : Unit) => True) (Ps Pt Pt) (fun i x hp hi hI => ?_) (fun i x hie hi hI => ?_) x0 h0
  · have hlt := lt_of hc0.1 hi
    have hle := Int.le_of_lt hlt
    have hin := iIn_lt hp hi
    exact DG.tt hi (DG.tt (iIn_lt hp hi) (DG.test (fun h_1 => (DG.inr rfl trivial)) (fun h_1 => (DG.inl rfl trivial))))
  · have hle := eq_le hc0.1 hie
    exact DG.ff hi (DG.ex rfl trivial)
theorem val (a0 : Rows) (ha0 : Brs a0) : DV (fun k => (f k a0).eval) (v a0) Pt := (DG.cas (law37_wide.w2_v _ ha0 () trivial) (fun r0 hr0 => (DG.ret trivial)) (fun r1 hr1 => (DG.ret trivial)))
end law37_wide
/-- A view of few nodes and pods. -/
def Sv (r : Row) : Prop := rLen (rSl r 0) ≤ 1048576 ∧ rLen (rSl r 1) ≤ 1048576
theorem le_et0 {x : Row} {n : Int} (h : rLen (rSl x 0) ≤ n) : rLen (rSl (et 26 x) 0) ≤ n := by
  have e : rSl (et 26 x) 0 = rSl x 0 := by kernel_rfl
  rw [e]; exact h
theorem le_et1 {x : Row} {n : Int} (h : rLen (rSl x 1) ≤ n) : rLen (rSl (et 26 x) 1) ≤ n := by
  have e : rSl (et 26 x) 1 = rSl x 1 := by kernel_rfl
  rw [e]; exact h
theorem sv_et {x : Row} (h : Sv x) : Sv (et 26 x) := ⟨le_et0 h.1, le_et1 h.2⟩
theorem bite_ff {a b : Bool} (h : bIte a true b = false) : a = false := by cases a; rfl; cases h
namespace law37_heavy
def p2 (i : Int) (q : Row) (x : Unit) : (Unit) ⊕ (Bool ⊕ Unit) := (bif (iLt 30 (rLen (rSl q 9))) then (.inr (.inl true)) else (.inl ()))
def z2 (x : Unit) : Bool ⊕ Unit := (.inr ())
def w2 (c0 : Row) : Bool ⊕ Unit := walk p2 z2 (rSl c0 0) 0 ()
def p7 (i : Int) (q : Row) (x : Unit) : (Unit) ⊕ (Bool ⊕ Unit) := (bif (iLt 30 (rLen (rSl q 9))) then (.inr (.inl true)) else (.inl ()))
def z7 (x : Unit) : Bool ⊕ Unit := (.inr ())
def w7 (c0 : Row) : Bool ⊕ Unit := walk p7 z7 (rSl c0 1) 0 ()
def p12 (i : Int) (q : Row) (x : Unit) : (Unit) ⊕ (Bool ⊕ Unit) := (let r0 := (law37_wide.v (rSl q 2)); (bif r0 then (.inr (.inl true)) else (.inl ())))
def z12 (x : Unit) : Bool ⊕ Unit := (.inr ())
def w12 (c1 : Row) : Bool ⊕ Unit := walk p12 z12 (rSl c1 21) 0 ()
def v (a0 : Row) (a1 : Row) : Bool := (Sum.elim (fun r0 => r0) (fun r1 => (Sum.elim (fun r2 => r2) (fun r3 => (Sum.elim (fun r4 => r4) (fun r5 => (bIte (bIte (bIte (iLt 12 (rLen (rSl a0 0))) true (iLt 24 (rLen (rSl a0 1)))) true (iLt 6 (rLen (rSl a1 21)))) true (iLt 30 (rLen (rSl a1 9))))) (law37_heavy.w12 (et 48 a1)))) (law37_heavy.w7 (et 26 a0)))) (law37_heavy.w2 (et 26 a0)))
theorem w2_v (c0 : Row) (c1 : Row) (hc0 : Br c0) (x0 : Unit) (h0 : True) : DV (fun k => iter (s2 k c0 c1) k ((fun (x : Unit) (i : Int) => i) x0 0)) (w2 c0) (Ps Pt Pt) := by
  refine DV.walk (fun (x : Unit) (i : Int) => i) (Br.sl hc0 _).1 p2 z2 (fun (i : Int) (x : Unit) => True) (Ps Pt Pt) (fun i x hp hi hI => ?_) (fun i x hie hi hI => ?_) x0 h0
  · have hlt := lt_of (Br.sl hc0 _).1 hi
    have hle := Int.le_of_lt hlt
    have hin := iIn_lt hp hi
    exact DG.tt hi (DG.tt (iIn_lt hp hi) (DG.test (fun h_1 => (DG.inr rfl trivial)) (fun h_1 => (DG.inl rfl trivial))))
  · have hle := eq_le (Br.sl hc0 _).1 hie
    exact DG.ff hi (DG.ex rfl trivial)
theorem w7_v (c0 : Row) (c1 : Row) (hc0 : Br c0) (x0 : Unit) (h0 : True) : DV (fun k => iter (s7 k c0 c1) k ((fun (x : Unit) (i : Int) => i) x0 0)) (w7 c0) (Ps Pt Pt) := by
  refine DV.walk (fun (x : Unit) (i : Int) => i) (Br.sl hc0 _).1 p7 z7 (fun (i : Int) (x : Unit) => True) (Ps Pt Pt) (fun i x hp hi hI => ?_) (fun i x hie hi hI => ?_) x0 h0
  · have hlt := lt_of (Br.sl hc0 _).1 hi
    have hle := Int.le_of_lt hlt
    have hin := iIn_lt hp hi
    exact DG.tt hi (DG.tt (iIn_lt hp hi) (DG.test (fun h_1 => (DG.inr rfl trivial)) (fun h_1 => (DG.inl rfl trivial))))
  · have hle := eq_le (Br.sl hc0 _).1 hie
    exact DG.ff hi (DG.ex rfl trivial)
theorem w12_v (c0 : Row) (c1 : Row) (hc1 : Br c1) (x0 : Unit) (h0 : True) : DV (fun k => iter (s12 k c0 c1) k ((fun (x : Unit) (i : Int) => i) x0 0)) (w12 c1) (Ps Pt Pt) := by
  refine DV.walk (fun (x : Unit) (i : Int) => i) (Br.sl hc1 _).1 p12 z12 (fun (i : Int) (x : Unit) => True) (Ps Pt Pt) (fun i x hp hi hI => ?_) (fun i x hie hi hI => ?_) x0 h0
  · have hlt := lt_of (Br.sl hc1 _).1 hi
    have hle := Int.le_of_lt hlt
    have hin := iIn_lt hp hi
    exact DG.tt hi (DG.tt (iIn_lt hp hi) (DG.bnd (law37_wide.val _ (Br.sl (Brs.at (Br.sl hc1 _) _) _)) (fun hr0 => (DG.test (fun h_2 => (DG.inr rfl trivial)) (fun h_2 => (DG.inl rfl trivial))))))
  · have hle := eq_le (Br.sl hc1 _).1 hie
    exact DG.ff hi (DG.ex rfl trivial)
theorem val (a0 : Row) (a1 : Row) (ha0 : Br a0) (ha1 : Br a1) : DV (fun k => (f k a0 a1).eval) (v a0 a1) Pt := (DG.cas (law37_heavy.w2_v _ _ (Br.eta ha0 _) () trivial) (fun r0 hr0 => (DG.ret trivial)) (fun r1 hr1 => (DG.cas (law37_heavy.w7_v _ _ (Br.eta ha0 _) () trivial) (fun r2 hr2 => (DG.ret trivial)) (fun r3 hr3 => (DG.cas (law37_heavy.w12_v _ _ (Br.eta ha1 _) () trivial) (fun r4 hr4 => (DG.ret trivial)) (fun r5 hr5 => (DG.ret trivial)))))))
end law37_heavy
theorem heavy_small {a0 a1 : Row} (h : law37_heavy.v a0 a1 = false) : Sv a0 := by
  have e2 : law37_heavy.w2 (et 26 a0) = bif (rSl (et 26 a0) 0).any (fun q => iLt 30 (rLen (rSl q 9))) then .inl true else .inr () := by
    show walk law37_heavy.p2 law37_heavy.z2 (rSl (et 26 a0) 0) 0 () = _
    exact walk_any (fun q => iLt 30 (rLen (rSl q 9))) (Sum.inl true) (fun i q _ => rfl)
  have e7 : law37_heavy.w7 (et 26 a0) = bif (rSl (et 26 a0) 1).any (fun q => iLt 30 (rLen (rSl q 9))) then .inl true else .inr () := by
    show walk law37_heavy.p7 law37_heavy.z7 (rSl (et 26 a0) 1) 0 () = _
    exact walk_any (fun q => iLt 30 (rLen (rSl q 9))) (Sum.inl true) (fun i q _ => rfl)
  have e12 : law37_heavy.w12 (et 48 a1) = bif (rSl (et 48 a1) 21).any (fun q => law37_wide.v (rSl q 2)) then .inl true else .inr () := by
    show walk law37_heavy.p12 law37_heavy.z12 (rSl (et 48 a1) 21) 0 () = _
    exact walk_any (fun q => law37_wide.v (rSl q 2)) (Sum.inl true) (fun i q _ => rfl)
  unfold law37_heavy.v at h
  rw [e2, e7, e12] at h
  revert h
  cases (rSl (et 26 a0) 0).any (fun q => iLt 30 (rLen (rSl q 9))) with
  | true => intro h; cases h
  | false =>
    cases (rSl (et 26 a0) 1).any (fun q => iLt 30 (rLen (rSl q 9))) with
    | true => intro h; cases h
    | false =>
      cases (rSl (et 48 a1) 21).any (fun q => law37_wide.v (rSl q 2)) with
      | true => intro h; cases h
      | false =>
        intro h
        have h : bIte (bIte (bIte (iLt 12 (rLen (rSl a0 0))) true (iLt 24 (rLen (rSl a0 1)))) true (iLt 6 (rLen (rSl a1 21)))) true (iLt 30 (rLen (rSl a1 9))) = false := h
        have h1 := bite_ff (bite_ff h)
        have h2 : iLt 12 (rLen (rSl a0 0)) = false := bite_ff h1
        rw [h2] at h1
        have h3 : iLt 24 (rLen (rSl a0 1)) = false := h1
        have h2 := of_decide_eq_false h2
        have h3 := of_decide_eq_false h3
        exact ⟨by omega, by omega⟩
namespace law37_node
def v (a0 : ByteArray) (a1 : ByteArray) : Row := [.str (bs [78, 111, 100, 101]), .str ByteArray.empty, .str a0, .int .i64 0, .int .i64 0, .int .i64 0, .int .i64 0, .bool false, .int .i64 0, .slice 93 [[.str (bs [122, 111, 110, 101]), .str a1]] .open, .slice 149 [] .open, .slice 9 [] .open, .slice 151 [] .open, .int .i64 0, .int .i64 0, .int .i64 0, .int .i64 0, .bool false, .slice 164 [] .open, .bool false, .int .i64 0, .bool false, .bool false, .slice 166 [] .open]
theorem val (a0 : ByteArray) (a1 : ByteArray) (ha0 : Sz 140737488351232 a0) (ha1 : Sz 140737488351232 a1) : DV (fun k => (f k a0 a1).eval) (v a0 a1) Br := (DG.ret (br_cons (brc_str (Nat.le_trans (@Nat.le_of_ble_eq_true _ 4 rfl) (Nat.le_of_ble_eq_true rfl))) (br_cons (brc_str (Nat.le_trans (@Nat.le_of_ble_eq_true _ 0 rfl) (Nat.le_of_ble_eq_true rfl))) (br_cons (brc_str ha0) (br_cons brc_int (br_cons brc_int (br_cons brc_int (br_cons brc_int (br_cons brc_bool (br_cons brc_int (br_cons (brc_slice (brs_of (Nat.le_of_ble_eq_true rfl) (all_cons (br_cons (brc_str (Nat.le_trans (@Nat.le_of_ble_eq_true _ 4 rfl) (Nat.le_of_ble_eq_true rfl))) (br_cons (brc_str ha1) br_nil)) all_nil))) (br_cons (brc_slice (brs_of (Nat.le_of_ble_eq_true rfl) all_nil)) (br_cons (brc_slice (brs_of (Nat.le_of_ble_eq_true rfl) all_nil)) (br_cons (brc_slice (brs_of (Nat.le_of_ble_eq_true rfl) all_nil)) (br_cons brc_int (br_cons brc_int (br_cons brc_int (br_cons brc_int (br_cons brc_bool (br_cons (brc_slice (brs_of (Nat.le_of_ble_eq_true rfl) all_nil)) (br_cons brc_bool (br_cons brc_int (br_cons brc_bool (br_cons brc_bool (br_cons (brc_slice (brs_of (Nat.le_of_ble_eq_true rfl) all_nil)) br_nil)))))))))))))))))))))))))
end law37_node
namespace law37_member
def v (a0 : ByteArray) (a1 : ByteArray) : Row := [.str (bs [80, 111, 100]), .str (bs [110, 115]), .str a0, .int .i64 0, .int .i64 0, .int .i64 0, .int .i64 0, .bool false, .int .i64 0, .slice 93 [[.str (bs [97, 112, 112]), .str (bs [119, 101, 98])]] .open, .slice 149 [] .open, .slice 9 [] .open, .slice 151 [] .open, .str a1, .int .i64 0, .int .i64 0, .int .i64 0, .slice 154 [] .open, .slice 76 [] .open, .slice 156 [] .open, .slice 158 [] .open, .slice 29 [] .open, .slice 160 [] .open, .int .i64 1, .bool false, .int .i64 0, .int .i64 0, .int .i64 0, .slice 162 [] .open, .int .i64 0, .str ByteArray.empty, .str ByteArray.empty]
theorem val (a0 : ByteArray) (a1 : ByteArray) (ha0 : Sz 140737488351232 a0) (ha1 : Sz 140737488351232 a1) : DV (fun k => (f k a0 a1).eval) (v a0 a1) Br := (DG.ret (br_cons (brc_str (Nat.le_trans (@Nat.le_of_ble_eq_true _ 3 rfl) (Nat.le_of_ble_eq_true rfl))) (br_cons (brc_str (Nat.le_trans (@Nat.le_of_ble_eq_true _ 2 rfl) (Nat.le_of_ble_eq_true rfl))) (br_cons (brc_str ha0) (br_cons brc_int (br_cons brc_int (br_cons brc_int (br_cons brc_int (br_cons brc_bool (br_cons brc_int (br_cons (brc_slice (brs_of (Nat.le_of_ble_eq_true rfl) (all_cons (br_cons (brc_str (Nat.le_trans (@Nat.le_of_ble_eq_true _ 3 rfl) (Nat.le_of_ble_eq_true rfl))) (br_cons (brc_str (Nat.le_trans (@Nat.le_of_ble_eq_true _ 3 rfl) (Nat.le_of_ble_eq_true rfl))) br_nil)) all_nil))) (br_cons (brc_slice (brs_of (Nat.le_of_ble_eq_true rfl) all_nil)) (br_cons (brc_slice (brs_of (Nat.le_of_ble_eq_true rfl) all_nil)) (br_cons (brc_slice (brs_of (Nat.le_of_ble_eq_true rfl) all_nil)) (br_cons (brc_str ha1) (br_cons brc_int (br_cons brc_int (br_cons brc_int (br_cons (brc_slice (brs_of (Nat.le_of_ble_eq_true rfl) all_nil)) (br_cons (brc_slice (brs_of (Nat.le_of_ble_eq_true rfl) all_nil)) (br_cons (brc_slice (brs_of (Nat.le_of_ble_eq_true rfl) all_nil)) (br_cons (brc_slice (brs_of (Nat.le_of_ble_eq_true rfl) all_nil)) (br_cons (brc_slice (brs_of (Nat.le_of_ble_eq_true rfl) all_nil)) (br_cons (brc_slice (brs_of (Nat.le_of_ble_eq_true rfl) all_nil)) (br_cons brc_int (br_cons brc_bool (br_cons brc_int (br_cons brc_int (br_cons brc_int (br_cons (brc_slice (brs_of (Nat.le_of_ble_eq_true rfl) all_nil)) (br_cons brc_int (br_cons (brc_str (Nat.le_trans (@Nat.le_of_ble_eq_true _ 0 rfl) (Nat.le_of_ble_eq_true rfl))) (br_cons (brc_str (Nat.le_trans (@Nat.le_of_ble_eq_true _ 0 rfl) (Nat.le_of_ble_eq_true rfl))) br_nil)))))))))))))))))))))))))))))))))
end law37_member
namespace label_Get
def p2 (c0 : ByteArray) (i : Int) (q : Row) (x : Unit) : (Unit) ⊕ ((ByteArray × Bool) ⊕ Unit) := (bif (sEq (rStr q 0) c0) then (.inr (.inl (rStr q 1, true))) else (.inl ()))
def z2 (x : Unit) : (ByteArray × Bool) ⊕ Unit := (.inr ())
def w2 (c0 : ByteArray) (c1 : Rows) : (ByteArray × Bool) ⊕ Unit := walk (p2 c0) z2 c1 0 ()
def v (a0 : Rows) (a1 : ByteArray) : (ByteArray × Bool) := (Sum.elim (fun r0 => (r0.1, r0.2)) (fun r1 => (ByteArray.empty, false)) (label_Get.w2 a1 a0))
theorem w2_v (c0 : ByteArray) (c1 : Rows) (c2 : Int) (hc1 : Brs c1) (ec2 : c2 = rLen c1) (x0 : Unit) (h0 : True) : DV (fun k => iter (s2 k c0 c1 c2) k ((fun (x : Unit) (i : Int) => i) x0 0)) (w2 c0 c1) (Ps (Pp (Sz 140737488351232) Pt) Pt) := by
  subst ec2; refine DV.walk (fun (x : Unit) (i : Int) => i) hc1.1 (p2 c0) z2 (fun (i : Int) (x : Unit) => True) (Ps (Pp (Sz 140737488351232) Pt) Pt) (fun i x hp hi hI => ?_) (fun i x hie hi hI => ?_) x0 h0
  · have hlt := lt_of hc1.1 hi
    have hle := Int.le_of_lt hlt
    have hin := iIn_lt hp hi
    exact DG.tt hi (DG.tt hin (DG.test (fun h_1 => (DG.inr rfl ⟨(Br.str (Brs.at hc1 _) _), trivial⟩)) (fun h_1 => (DG.inl rfl trivial))))
  · have hle := eq_le hc1.1 hie
    exact DG.ff hi (DG.ex rfl trivial)
theorem val (a0 : Rows) (a1 : ByteArray) (ha0 : Brs a0) : DV (fun k => (f k a0 a1).eval) (v a0 a1) (Pp (Sz 140737488351232) Pt) := (DG.cas (label_Get.w2_v _ _ _ ha0 rfl () trivial) (fun r0 hr0 => (DG.ret ⟨hr0.1, trivial⟩)) (fun r1 hr1 => (DG.ret ⟨(Nat.le_trans (@Nat.le_of_ble_eq_true _ 0 rfl) (Nat.le_of_ble_eq_true rfl)), trivial⟩)))
end label_Get
namespace affinity_Domain
def v (a0 : Row) (a1 : ByteArray) : (ByteArray × Bool) := (let r0 := (label_Get.v (rSl a0 9) a1); (r0.1, r0.2))
theorem val (a0 : Row) (a1 : ByteArray) (ha0 : Br a0) : DV (fun k => (f k a0 a1).eval) (v a0 a1) (Pp (Sz 140737488351232) Pt) := (DG.bnd (label_Get.val _ _ (Br.sl ha0 _)) (fun hr0 => (DG.ret ⟨hr0.1, trivial⟩)))
end affinity_Domain
namespace pod_Active
def v (a0 : Row) : Bool := (bIte (bIte (iEq (rInt a0 23) 0) true (iEq (rInt a0 23) 1)) (bNot (rBool a0 7)) false)
theorem val (a0 : Row) : DV (fun k => (f k a0).eval) (v a0) Pt := (DG.ret trivial)
end pod_Active
namespace slices_Index_string_string
def p2 (c1 : ByteArray) (i : Int) (q : Row) (x : Unit) : (Unit) ⊕ (Int ⊕ Unit) := (bif (sEq c1 (rStr q 0)) then (.inr (.inl i)) else (.inl ()))
def z2 (x : Unit) : Int ⊕ Unit := (.inr ())
def w2 (c0 : Rows) (c1 : ByteArray) : Int ⊕ Unit := walk (p2 c1) z2 c0 0 ()
def v (a0 : Rows) (a1 : ByteArray) : Int := (Sum.elim (fun r0 => r0) (fun r1 => (-1)) (slices_Index_string_string.w2 a0 a1))
theorem w2_v (c0 : Rows) (c1 : ByteArray) (c2 : Int) (hc0 : Brs c0) (ec2 : c2 = rLen c0) (x0 : Unit) (h0 : True) : DV (fun k => iter (s2 k c0 c1 c2) k ((fun (x : Unit) (i : Int) => i) x0 0)) (w2 c0 c1) (Ps Pt Pt) := by
  subst ec2; refine DV.walk (fun (x : Unit) (i : Int) => i) hc0.1 (p2 c1) z2 (fun (i : Int) (x : Unit) => True) (Ps Pt Pt) (fun i x hp hi hI => ?_) (fun i x hie hi hI => ?_) x0 h0
  · have hlt := lt_of hc0.1 hi
    have hle := Int.le_of_lt hlt
    have hin := iIn_lt hp hi
    exact DG.tt hi (DG.tt hin (DG.test (fun h_1 => (DG.inr rfl trivial)) (fun h_1 => (DG.inl rfl trivial))))
  · have hle := eq_le hc0.1 hie
    exact DG.ff hi (DG.ex rfl trivial)
theorem val (a0 : Rows) (a1 : ByteArray) (ha0 : Brs a0) : DV (fun k => (f k a0 a1).eval) (v a0 a1) Pt := (DG.cas (slices_Index_string_string.w2_v _ _ _ ha0 rfl () trivial) (fun r0 hr0 => (DG.ret trivial)) (fun r1 hr1 => (DG.ret trivial)))
end slices_Index_string_string
namespace slices_Contains_string_string
def v (a0 : Rows) (a1 : ByteArray) : Bool := (let r0 := (slices_Index_string_string.v a0 a1); (iLe 0 r0))
theorem val (a0 : Rows) (a1 : ByteArray) (ha0 : Brs a0) : DV (fun k => (f k a0 a1).eval) (v a0 a1) Pt := (DG.bnd (slices_Index_string_string.val _ _ ha0) (fun hr0 => (DG.ret trivial)))
end slices_Contains_string_string
namespace label_holds
def v (a0 : Row) (a1 : Rows) : Bool := (let r0 := (label_Get.v a1 (rStr a0 0)); (bif (iEq (rInt a0 1) 1) then (let r1 := bif r0.2 then (slices_Contains_string_string.v (rSl a0 2) r0.1) else default; (bIte r0.2 r1 false)) else (bif (iEq (rInt a0 1) 2) then (let r2 := bif (bNot (bNot r0.2)) then (slices_Contains_string_string.v (rSl a0 2) r0.1) else default; (bIte (bNot r0.2) true (bNot r2))) else (bif (iEq (rInt a0 1) 3) then r0.2 else (bif (iEq (rInt a0 1) 4) then (bNot r0.2) else false)))))
theorem val (a0 : Row) (a1 : Rows) (ha0 : Br a0) (ha1 : Brs a1) : DV (fun k => (f k a0 a1).eval) (v a0 a1) Pt := (DG.bnd (label_Get.val _ _ ha1) (fun hr0 => (DG.test (fun h_2 => (DG.opt (fun h_3 => (slices_Contains_string_string.val _ _ (Br.sl ha0 _))) (fun _ => trivial) (fun hr1 => (DG.ret trivial)))) (fun h_2 => (DG.test (fun h_4 => (DG.opt (fun h_5 => (slices_Contains_string_string.val _ _ (Br.sl ha0 _))) (fun _ => trivial) (fun hr2 => (DG.ret trivial)))) (fun h_4 => (DG.test (fun h_6 => (DG.ret trivial)) (fun h_6 => (DG.test (fun h_7 => (DG.ret trivial)) (fun h_7 => (DG.ret trivial)))))))))))
end label_holds
namespace label_Matches
def p2 (c0 : Rows) (i : Int) (q : Row) (x : Unit) : (Unit) ⊕ (Bool ⊕ Unit) := (let r0 := (label_holds.v (et 76 q) c0); (bif (bNot r0) then (.inr (.inl false)) else (.inl ())))
def z2 (x : Unit) : Bool ⊕ Unit := (.inr ())
def w2 (c0 : Rows) (c1 : Rows) : Bool ⊕ Unit := walk (p2 c0) z2 c1 0 ()
def v (a0 : Rows) (a1 : Rows) : Bool := (Sum.elim (fun r0 => r0) (fun r1 => true) (label_Matches.w2 a1 a0))
theorem w2_v (c0 : Rows) (c1 : Rows) (c2 : Int) (hc0 : Brs c0) (hc1 : Brs c1) (ec2 : c2 = rLen c1) (x0 : Unit) (h0 : True) : DV (fun k => iter (s2 k c0 c1 c2) k ((fun (x : Unit) (i : Int) => i) x0 0)) (w2 c0 c1) (Ps Pt Pt) := by
  subst ec2; refine DV.walk (fun (x : Unit) (i : Int) => i) hc1.1 (p2 c0) z2 (fun (i : Int) (x : Unit) => True) (Ps Pt Pt) (fun i x hp hi hI => ?_) (fun i x hie hi hI => ?_) x0 h0
  · have hlt := lt_of hc1.1 hi
    have hle := Int.le_of_lt hlt
    have hin := iIn_lt hp hi
    exact DG.tt hi (DG.tt hin (DG.bnd (label_holds.val _ _ (Br.eta (Brs.at hc1 _) _) hc0) (fun hr0 => (DG.test (fun h_2 => (DG.inr rfl trivial)) (fun h_2 => (DG.inl rfl trivial))))))
  · have hle := eq_le hc1.1 hie
    exact DG.ff hi (DG.ex rfl trivial)
theorem val (a0 : Rows) (a1 : Rows) (ha0 : Brs a0) (ha1 : Brs a1) : DV (fun k => (f k a0 a1).eval) (v a0 a1) Pt := (DG.cas (label_Matches.w2_v _ _ _ ha1 ha0 rfl () trivial) (fun r0 hr0 => (DG.ret trivial)) (fun r1 hr1 => (DG.ret trivial)))
end label_Matches
namespace spread_Counts
def z0 : Row := [.int .i64 (0)]
def p5 (t : ByteArray) (i : Int) (q : Row) (x : Rows × Rows × Rows) : (Rows × Rows × Rows) ⊕ (Rows × Rows) :=
  let r0 := affinity_Domain.v (et 61 q) t
  .inl ((bif (bIte r0.2 (bNot (rBool (mGet x.2.1 (rStr q 2) [.bool false]) 0)) false) then mSet x.1 (rStr q 2) [.str r0.1] else x.1), mSet x.2.1 (rStr q 2) [.bool true],
    (bif r0.2 then mSet x.2.2 r0.1 [.int .i64 (iAdd .i64 (rInt (mGet x.2.2 r0.1 z0) 0) (0))] else x.2.2))
def z5 (x : Rows × Rows × Rows) : Rows × Rows := (x.1, x.2.2)
def w5 (t : ByteArray) (ns : Rows) : Rows × Rows := walk (p5 t) z5 ns 0 ([], [], [])
def dmOf (dm : Rows) (q : Row) : ByteArray := rStr (mGet dm (rStr q 13) [.str ByteArray.empty]) 0
def okP (ns : ByteArray) (sel dm : Rows) (q : Row) : Bool := bIte (bIte (bIte (mHas dm (rStr q 13)) (pod_Active.v (et 48 q)) false) (sEq (rStr q 1) ns) false) (label_Matches.v sel (rSl q 9)) false
def p15 (ns : ByteArray) (sel dm : Rows) (i : Int) (q : Row) (x : Rows) : Rows ⊕ Rows :=
  .inl (bif okP ns sel dm q then mSet x (dmOf dm q) [.int .i64 (iAdd .i64 (rInt (mGet x (dmOf dm q) z0) 0) (1))] else x)
def w15 (ns : ByteArray) (sel dm : Rows) (ps : Rows) (x : Rows) : Rows := walk (p15 ns sel dm) (fun x => x) ps 0 x
def m (a0 : Row) (a1 : ByteArray) (a2 : Row) : Rows := let r0 := w5 (rStr a2 1) (rSl a0 0); w15 a1 (rSl a2 2) r0.1 (rSl a0 1) r0.2
def v (a0 : Row) (a1 : ByteArray) (a2 : Row) : Rows := sortC (m a0 a1 a2)
/-- The domains that are held are counted. -/
def Kept (dm cs : Rows) : Prop := (∀ q, q ∈ dm → Br q) ∧ ∀ s, mHas dm s = true → mHas cs (rStr (mGet dm s [.str ByteArray.empty]) 0) = true
theorem size_dom (q : Row) (t : ByteArray) (h : Br q) (ht : t.size ≤ 140737488351232) : (affinity_Domain.v (et 61 q) t).1.size ≤ 140737488351232 := (affinity_Domain.val (et 61 q) t (Br.eta h _)).post.1
theorem w5_v (t : ByteArray) (ht : t.size ≤ 140737488351232) (c0 : ByteArray) (c3 c4 : Row) (ns : Rows) (hns : Brs ns) (ec : rStr c4 1 = t) :
    DV (fun k => iter (s5 k c0 ns (rLen ns) c3 c4) k ((fun (x : Rows × Rows × Rows) (i : Int) => (i, x.1, x.2.1, x.2.2)) ([], [], []) 0)) (w5 t ns) (fun r => MpI (rLen ns) r.2 ∧ Kept r.1 r.2) := by
  refine DV.walk (fun (x : Rows × Rows × Rows) (i : Int) => (i, x.1, x.2.1, x.2.2)) hns.1 (p5 t) z5 (fun (i : Int) (x : Rows × Rows × Rows) => MpI i x.2.2 ∧ Kept x.1 x.2.2) _ (fun i x hp hi hI => ?_) (fun i x hie hi hI => ?_) _ ⟨MpI.nil, all_nil, fun s h => by cases h⟩
  · have hin := iIn_lt hp hi
    have hq := hns.at i
    obtain ⟨g1, g2, g3⟩ := hI
    have hsz := size_dom (rAt ns i) t hq ht
    have hns' : (rStr (rAt ns i) 2).size ≤ 140737488351232 := Br.str hq 2
    subst ec
    refine DG.tt hi (DG.tt hin (DG.bnd (affinity_Domain.val _ _ (Br.eta hq _)) (fun _ => ?_)))
    unfold p5
    dsimp only
    generalize hd : affinity_Domain.v (et 61 (rAt ns i)) (rStr c4 1) = r0 at hsz ⊢
    have hb : Br [V.int .i64 (iAdd .i64 (rInt (mGet x.2.2 r0.1 z0) 0) (0))] := br_cons brc_int br_nil
    have hbs : Br [V.str r0.1] := br_cons hsz br_nil
    have kset : ∀ (cs' : Rows), (∀ s, mHas x.2.2 s = true → mHas cs' s = true) → Kept x.1 cs' := fun cs' h => ⟨g2, fun s hs => h _ (g3 s hs)⟩
    have kdm : ∀ (cs' : Rows), (∀ s, mHas x.2.2 s = true → mHas cs' s = true) → mHas cs' r0.1 = true → Kept (mSet x.1 (rStr (rAt ns i) 2) [.str r0.1]) cs' := fun cs' h h1 =>
      ⟨mSet_all g2 (br_cons hns' hbs), fun s hs => by
        rw [mSet_get]
        cases hse : sEq (rStr (rAt ns i) 2) s with
        | true => exact h1
        | false => rw [mSet_has, hse] at hs; exact h _ (g3 s hs)⟩
    cases hr : r0.2 with
    | true =>
      have hm : ∀ s, mHas x.2.2 s = true → mHas (mSet x.2.2 r0.1 [.int .i64 (iAdd .i64 (rInt (mGet x.2.2 r0.1 z0) 0) (0))]) s = true := fun s hs => by rw [mSet_has, hs]; simp
      have h1 : mHas (mSet x.2.2 r0.1 [.int .i64 (iAdd .i64 (rInt (mGet x.2.2 r0.1 z0) 0) (0))]) r0.1 = true := by rw [mSet_has, sEq_refl]; rfl
      cases hn : rBool (mGet x.2.1 (rStr (rAt ns i) 2) [.bool false]) 0 with
      | true => exact DG.inl rfl ⟨g1.set hsz hb, kset _ hm⟩
      | false => exact DG.inl rfl ⟨g1.set hsz hb, kdm _ hm h1⟩
    | false =>
      exact DG.inl rfl ⟨g1.le (by omega), kset _ (fun s hs => hs)⟩
  · subst hie
    exact DG.ff hi (DG.ex rfl hI)
theorem w15_v (c0 : ByteArray) (c3 : Row) (ps dm cs : Rows) (n : Int) (hps : Brs ps) (hc3 : Br c3) (hcs : MpI n cs) (hk : Kept dm cs) :
    DV (fun k => iter (s15 k c0 ps (rLen ps) c3 dm) k ((fun (x : Rows) (i : Int) => (i, x)) cs 0)) (w15 c0 (rSl c3 2) dm ps cs) (MpI n) := by
  refine (DV.walk (fun (x : Rows) (i : Int) => (i, x)) hps.1 (p15 c0 (rSl c3 2) dm) (fun x => x) (fun (i : Int) (x : Rows) => MpI n x ∧ Kept dm x) (fun x => MpI n x) (fun i x hp hi hI => ?_) (fun i x hie hi hI => ?_) cs ⟨hcs, hk⟩)
  · have hin := iIn_lt hp hi
    have hq := hps.at i
    obtain ⟨g1, g2, g3⟩ := hI
    refine DG.tt hi (DG.tt hin ?_)
    refine DG.opt (fun _ => pod_Active.val _) (fun _ => trivial) (fun _ => ?_)
    refine DG.opt (fun _ => label_Matches.val _ _ (hc3.sl 2) (hq.sl 9)) (fun _ => trivial) (fun _ => ?_)
    have hok : ∀ (a b c d : Bool), bIte (bIte (bIte a (bif a then b else default) false) c false) (bif (bIte (bIte a (bif a then b else default) false) c false) then d else default) false = bIte (bIte (bIte a b false) c false) d false := by
      intro a b c d; cases a <;> cases b <;> cases c <;> rfl
    rw [hok]
    have he : bIte (bIte (bIte (mHas dm (rStr (rAt ps i) 13)) (pod_Active.v (et 48 (rAt ps i))) false) (sEq (rStr (rAt ps i) 1) c0) false) (label_Matches.v (rSl c3 2) (rSl (rAt ps i) 9)) false = okP c0 (rSl c3 2) dm (rAt ps i) := rfl
    rw [he]
    unfold p15
    cases hb : okP c0 (rSl c3 2) dm (rAt ps i) with
    | true =>
      have hd : mHas dm (rStr (rAt ps i) 13) = true := by
        unfold okP at hb; exact and_l (and_l (and_l hb))
      have hh := g3 _ hd
      have hs : (dmOf dm (rAt ps i)).size ≤ 140737488351232 := Br.str (mGet_br (br_cons (Nat.zero_le _) br_nil) g2) 0
      exact DG.inl rfl ⟨g1.put hs (br_cons brc_int br_nil) hh, g2, fun s hs => by
        show mHas (mSet x _ _) _ = true
        rw [mSet_has, g3 s hs]; simp⟩
    | false => exact DG.inl rfl ⟨g1, g2, g3⟩
  · exact DG.ff hi (DG.ex rfl hI.1)
theorem g_v (a0 : Row) (a1 : ByteArray) (a2 : Row) (ha0 : Br a0) (ha1 : Sz 140737488351232 a1) (ha2 : Br a2) : DV (fun k => (g k a0 a1 a2).eval) (m a0 a1 a2) (MpI (rLen (rSl a0 0))) := by
  unfold m
  refine DG.bnd (w5_v (rStr a2 1) (ha2.str 1) a1 (et 26 a0) (et 29 a2) (rSl a0 0) (ha0.sl 0) rfl) (fun h => ?_)
  refine DG.bnd (w15_v a1 (et 29 a2) (rSl a0 1) _ _ _ (ha0.sl 1) (Br.eta ha2 _) h.1 h.2) (fun h2 => DG.ret h2)
theorem val2 (a0 : Row) (a1 : ByteArray) (a2 : Row) (ha0 : Br a0) (ha1 : Sz 140737488351232 a1) (ha2 : Br a2) (hn : rLen (rSl a0 0) ≤ 1048576) : DV (fun k => (f k a0 a1 a2).eval) (v a0 a1 a2) (fun r => Brs r ∧ rLen r = rLen (m a0 a1 a2)) := by
  have hg := g_v a0 a1 a2 ha0 ha1 ha2
  have hle := hn
  refine DG.bnd hg (fun h => DG.tt (h.ok hle (by decide)) (DG.ret ?_))
  have hb := h.brs (by omega)
  have hp := sortC_perm (m a0 a1 a2)
  exact ⟨⟨by rw [hp.length_eq]; exact hb.1, fun q hq => hb.2 q (hp.subset hq)⟩, by unfold rLen; rw [hp.length_eq]⟩
theorem val (a0 : Row) (a1 : ByteArray) (a2 : Row) (ha0 : Br a0) (ha1 : Sz 140737488351232 a1) (ha2 : Br a2) (hn : rLen (rSl a0 0) ≤ 1048576) : DV (fun k => (f k a0 a1 a2).eval) (v a0 a1 a2) Brs := (val2 a0 a1 a2 ha0 ha1 ha2 hn).mono (fun h => h.1)
end spread_Counts
namespace meta_Key
def v (a0 : ByteArray) (a1 : ByteArray) (a2 : ByteArray) : ByteArray := (sCat (sCat (sCat (sCat a0 (bs [47])) a1) (bs [47])) a2)
theorem val (a0 : ByteArray) (a1 : ByteArray) (a2 : ByteArray) (ha0 : Sz 140737488351232 a0) (ha1 : Sz 140737488351232 a1) (ha2 : Sz 140737488351232 a2) : DV (fun k => (f k a0 a1 a2).eval) (v a0 a1 a2) (Sz 422212465053698) := (DG.tt (sOk_sz ha0 (@Nat.le_of_ble_eq_true _ 1 rfl) (by decide)) (DG.tt (sOk_sz (sz_cat ha0 (@Nat.le_of_ble_eq_true _ 1 rfl)) ha1 (by decide)) (DG.tt (sOk_sz (sz_cat (sz_cat ha0 (@Nat.le_of_ble_eq_true _ 1 rfl)) ha1) (@Nat.le_of_ble_eq_true _ 1 rfl) (by decide)) (DG.tt (sOk_sz (sz_cat (sz_cat (sz_cat ha0 (@Nat.le_of_ble_eq_true _ 1 rfl)) ha1) (@Nat.le_of_ble_eq_true _ 1 rfl)) ha2 (by decide)) (DG.ret (sz_cat (sz_cat (sz_cat (sz_cat ha0 (@Nat.le_of_ble_eq_true _ 1 rfl)) ha1) (@Nat.le_of_ble_eq_true _ 1 rfl)) ha2))))))
end meta_Key
namespace meta_KeyOf
def v (a0 : Row) : ByteArray := (let r0 := (meta_Key.v (rStr a0 0) (rStr a0 1) (rStr a0 2)); r0)
theorem val (a0 : Row) (ha0 : Br a0) : DV (fun k => (f k a0).eval) (v a0) (Sz 422212465053698) := (DG.bnd (meta_Key.val _ _ _ (Br.str ha0 _) (Br.str ha0 _) (Br.str ha0 _)) (fun hr0 => (DG.ret hr0)))
end meta_KeyOf
namespace slices_Clone_api_Pod_api_Pod
def v (a0 : Rows) : Rows := a0
theorem val (a0 : Rows) (ha0 : Brs a0) (hn : rLen a0 ≤ 1048576) : DV (fun k => (f k a0).eval) (v a0) Brs := (DG.tt (rOk_new (by decide) hn) (DG.ret ha0))
def vm (a0 : Rows) : (Rows × Int) := (a0, (rLen a0))
theorem valm (a0 : Rows) (ha0 : Brs a0) (hn : rLen a0 ≤ 1048576) : DV (fun k => (fm k a0).eval) (vm a0) (Pp Brs Pt) := (DG.tt (rOk_new (by decide) hn) (DG.ret ⟨ha0, trivial⟩))
end slices_Clone_api_Pod_api_Pod
namespace spread_look_1
def v (a0 : Row) (a1 : Row) : Bool := (let r0 := (meta_KeyOf.v (et 36 a0)); (sEq r0 (rStr a1 0)))
theorem val (a0 : Row) (a1 : Row) (ha0 : Br a0) : DV (fun k => (f k a0 a1).eval) (v a0 a1) Pt := (DG.bnd (meta_KeyOf.val _ (Br.eta ha0 _)) (fun hr0 => (DG.ret trivial)))
end spread_look_1
namespace slices_IndexFunc_api_Pod_api_Pod_c49
def p2 (i : Int) (q : Row) (x : Row) : (Row) ⊕ (Int ⊕ Unit) := (let r0 := (spread_look_1.v (et 48 q) [.str (rStr x 0)]); (bif r0 then (.inr (.inl i)) else (.inl [.str (rStr x 0)])))
def z2 (x : Row) : Int ⊕ Unit := (.inr ())
def w2 (c0 : Rows) (x0 : Row) : Int ⊕ Unit := walk p2 z2 c0 0 x0
def v (a0 : Rows) (a1 : Row) : Int := (Sum.elim (fun r0 => r0) (fun r1 => (-1)) (slices_IndexFunc_api_Pod_api_Pod_c49.w2 a0 [.str (rStr a1 0)]))
theorem w2_v (c0 : Rows) (c1 : Int) (hc0 : Brs c0) (ec1 : c1 = rLen c0) (x0 : Row) (h0 : True) : DV (fun k => iter (s2 k c0 c1) k ((fun (x : Row) (i : Int) => (x, i)) x0 0)) (w2 c0 x0) (Ps Pt Pt) := by
  subst ec1; refine DV.walk (fun (x : Row) (i : Int) => (x, i)) hc0.1 p2 z2 (fun (i : Int) (x : Row) => True) (Ps Pt Pt) (fun i x hp hi hI => ?_) (fun i x hie hi hI => ?_) x0 h0
  · have hlt := lt_of hc0.1 hi
    have hle := Int.le_of_lt hlt
    have hin := iIn_lt hp hi
    exact DG.tt hi (DG.tt hin (DG.bnd (spread_look_1.val _ _ (Br.eta (Brs.at hc0 _) _)) (fun hr0 => (DG.test (fun h_2 => (DG.inr rfl trivial)) (fun h_2 => (DG.inl rfl trivial))))))
  · have hle := eq_le hc0.1 hie
    exact DG.ff hi (DG.ex rfl trivial)
theorem val (a0 : Rows) (a1 : Row) (ha0 : Brs a0) : DV (fun k => (f k a0 a1).eval) (v a0 a1) Pt := (DG.cas (slices_IndexFunc_api_Pod_api_Pod_c49.w2_v _ _ ha0 rfl _ trivial) (fun r0 hr0 => (DG.ret trivial)) (fun r1 hr1 => (DG.ret trivial)))
end slices_IndexFunc_api_Pod_api_Pod_c49
theorem slices_IndexFunc_api_Pod_api_Pod_c49.lt (a0 : Rows) (a1 : Row) : slices_IndexFunc_api_Pod_api_Pod_c49.v a0 a1 < rLen a0 := by
  have h0 : 0 ≤ rLen a0 := by unfold rLen; omega
  show Sum.elim (fun r0 => r0) (fun r1 => -1) (walk slices_IndexFunc_api_Pod_api_Pod_c49.p2 slices_IndexFunc_api_Pod_api_Pod_c49.z2 a0 0 [.str (rStr a1 0)]) < _
  rcases walk_index (p := slices_IndexFunc_api_Pod_api_Pod_c49.p2) (z := slices_IndexFunc_api_Pod_api_Pod_c49.z2) (es := a0) (i := 0) (x := [.str (rStr a1 0)]) (fun i q x => by
    unfold slices_IndexFunc_api_Pod_api_Pod_c49.p2
    generalize spread_look_1.v _ _ = b
    cases b
    · exact Or.inl ⟨_, rfl⟩
    · exact Or.inr rfl) (fun x => ⟨_, rfl⟩) with ⟨u, e⟩ | ⟨j, e, h1, h2⟩
  · rw [e]; show (-1 : Int) < _; omega
  · rw [e]; show j < _; omega
theorem slices_IndexFunc_api_Pod_api_Pod_c49.ge (a0 : Rows) (a1 : Row) : slices_IndexFunc_api_Pod_api_Pod_c49.v a0 a1 = -1 ∨ 0 ≤ slices_IndexFunc_api_Pod_api_Pod_c49.v a0 a1 := by
  show Sum.elim (fun r0 => r0) (fun r1 => -1) (walk slices_IndexFunc_api_Pod_api_Pod_c49.p2 slices_IndexFunc_api_Pod_api_Pod_c49.z2 a0 0 [.str (rStr a1 0)]) = -1 ∨ 0 ≤ Sum.elim (fun r0 => r0) (fun r1 => -1) (walk slices_IndexFunc_api_Pod_api_Pod_c49.p2 slices_IndexFunc_api_Pod_api_Pod_c49.z2 a0 0 [.str (rStr a1 0)])
  rcases walk_index (p := slices_IndexFunc_api_Pod_api_Pod_c49.p2) (z := slices_IndexFunc_api_Pod_api_Pod_c49.z2) (es := a0) (i := 0) (x := [.str (rStr a1 0)]) (fun i q x => by
    unfold slices_IndexFunc_api_Pod_api_Pod_c49.p2
    generalize spread_look_1.v _ _ = b
    cases b
    · exact Or.inl ⟨_, rfl⟩
    · exact Or.inr rfl) (fun x => ⟨_, rfl⟩) with ⟨u, e⟩ | ⟨j, e, h1, h2⟩
  · rw [e]; exact Or.inl rfl
  · rw [e]; exact Or.inr h1
namespace slices_DeleteFunc_api_Pod_api_Pod_c49
def p5 (i : Int) (q : Row) (x : Row × Int × Rows) : (Row × Int × Rows) ⊕ (Int × Rows) := (bif (bNot (spread_look_1.v (et 48 (rAt x.2.2 i)) [.str (rStr x.1 0)])) then (.inl ([.str (rStr x.1 0)], (iAdd .i64 x.2.1 1), (rSet x.2.2 x.2.1 (et 48 (rAt x.2.2 i))))) else (.inl ([.str (rStr x.1 0)], x.2.1, x.2.2)))
def z5 (x : Row × Int × Rows) : Int × Rows := (x.2.1, x.2.2)
def w5 (n : Int) (x0 : Row × Int × Rows) (s0 : Int) : Int × Rows := walk p5 z5 ((nRows n).drop s0.toNat) s0 x0
def v (a0 : Rows) (a1 : Row) : (Rows × Int) := (let r0 := (slices_IndexFunc_api_Pod_api_Pod_c49.v (rTake a0 (rLen a0)) [.str (rStr a1 0)]); (bif (iEq r0 (-1)) then (a0, (rLen a0)) else (let r1 := (w5 (rLen a0) ([.str (rStr a1 0)], r0, a0) (iAdd .i64 r0 1)); ((rFill r1.2 r1.1 (iPlus r1.1 (iMinus (rLen a0) r1.1)) [.str ByteArray.empty, .str ByteArray.empty, .str ByteArray.empty, .int .i64 (0), .int .i64 (0), .int .i64 (0), .int .i64 (0), .bool false, .int .i64 (0), .slice 93 [] .open, .slice 149 [] .open, .slice 9 [] .open, .slice 151 [] .open, .str ByteArray.empty, .int .i64 (0), .int .i64 (0), .int .i64 (0), .slice 154 [] .open, .slice 76 [] .open, .slice 156 [] .open, .slice 158 [] .open, .slice 29 [] .open, .slice 160 [] .open, .int .i64 (0), .bool false, .int .i64 (0), .int .i64 (0), .int .i64 (0), .slice 162 [] .open, .int .i64 (0), .str ByteArray.empty, .str ByteArray.empty]), r1.1))))
theorem w5_v (n : Int) (hn : 0 ≤ n ∧ n ≤ 140737488351232) (x0 : Row × Int × Rows) (s0 : Int) (hs : 0 ≤ s0 ∧ s0 ≤ n) (h0 : 0 ≤ x0.2.1 ∧ x0.2.1 ≤ s0 ∧ SetI n x0.2.2) : DV (fun k => iter (s5 k n) k ((fun (x : Row × Int × Rows) (i : Int) => (x.1, x.2.1, i, x.2.2)) x0 s0)) (w5 n x0 s0) (fun r => (0 ≤ r.1 ∧ r.1 ≤ n) ∧ SetI n r.2) := by
  refine DV.walkNFrom (fun (x : Row × Int × Rows) (i : Int) => (x.1, x.2.1, i, x.2.2)) hn p5 z5 (fun (i : Int) (x : Row × Int × Rows) => 0 ≤ x.2.1 ∧ x.2.1 ≤ i ∧ SetI n x.2.2) _ (fun i x hp hi hI => ?_) (fun i x hie hi hI => ?_) x0 s0 hs h0
  · have hlt := ltn_of hn hi
    have hin := iIn_lt hp hi
    obtain ⟨g1, g2, g3⟩ := hI
    have hi' := of_decide_eq_true hi
    have e1 : iAdd .i64 x.2.1 1 = x.2.1 + 1 := iAdd_one g1 (by omega)
    exact DG.tt hi (DG.tt hin (DG.bnd (spread_look_1.val _ _ (Br.eta (Brs.at g3.1 _) _)) (fun _ => DG.test (fun _ => DG.tt (decide_eq_true ⟨g1, by show x.2.1 < n; omega⟩) (DG.inl rfl ⟨by show 0 ≤ iAdd .i64 x.2.1 1; rw [e1]; omega, by show iAdd .i64 x.2.1 1 ≤ i + 1; rw [e1]; omega, g3.set (Br.eta (Brs.at g3.1 _) _) _⟩)) (fun _ => DG.inl rfl ⟨g1, by show x.2.1 ≤ i + 1; omega, g3⟩))))
  · obtain ⟨g1, g2, g3⟩ := hI
    exact DG.ff hi (DG.ex rfl ⟨⟨g1, by show x.2.1 ≤ n; omega⟩, g3⟩)
theorem val2 (a0 : Rows) (a1 : Row) (ha0 : Brs a0) : DV (fun k => (f k a0 a1).eval) (v a0 a1) (fun r => Brs r.1 ∧ 0 ≤ r.2 ∧ r.2 ≤ rLen a0) := by
  have hn : 0 ≤ rLen a0 ∧ rLen a0 ≤ 140737488351232 := ⟨rl_pos _, rl_le ha0⟩
  have hl : rLen (rTake a0 (rLen a0)) = rLen a0 := by unfold rTake rLen; simp
  unfold v
  dsimp only
  refine DG.bnd (slices_IndexFunc_api_Pod_api_Pod_c49.val _ _ (brs_take ha0 _)) (fun _ => ?_)
  have hlt := slices_IndexFunc_api_Pod_api_Pod_c49.lt (rTake a0 (rLen a0)) [.str (rStr a1 0)]
  have hge := slices_IndexFunc_api_Pod_api_Pod_c49.ge (rTake a0 (rLen a0)) [.str (rStr a1 0)]
  rw [hl] at hlt
  generalize slices_IndexFunc_api_Pod_api_Pod_c49.v (rTake a0 (rLen a0)) [.str (rStr a1 0)] = r0 at *
  refine DG.test (fun h => DG.ret ⟨ha0, hn.1, Int.le_refl _⟩) (fun h => ?_)
  have h0 : 0 ≤ r0 := by
    rcases hge with e | e
    · rw [e] at h; cases h
    · exact e
  have e1 : iAdd .i64 r0 1 = r0 + 1 := iAdd_one h0 (by omega)
  refine DG.bnd (w5_v (rLen a0) hn ([.str (rStr a1 0)], r0, a0) (iAdd .i64 r0 1) (by rw [e1]; omega) ⟨h0, by show r0 ≤ _; rw [e1]; omega, ha0, rfl⟩) (fun hq => ?_)
  obtain ⟨⟨q1, q2⟩, q3⟩ := hq
  exact DG.tt (decide_eq_true ⟨q1, q2, Int.le_refl _⟩) (DG.tt (decide_eq_true ⟨Int.le_refl _, q1, q2⟩) (DG.ret ⟨brs_fill q3.1 (br_cons (brc_str (Nat.zero_le _)) (br_cons (brc_str (Nat.zero_le _)) (br_cons (brc_str (Nat.zero_le _)) (br_cons brc_int (br_cons brc_int (br_cons brc_int (br_cons brc_int (br_cons brc_bool (br_cons brc_int (br_cons (brc_slice brs_nil) (br_cons (brc_slice brs_nil) (br_cons (brc_slice brs_nil) (br_cons (brc_slice brs_nil) (br_cons (brc_str (Nat.zero_le _)) (br_cons brc_int (br_cons brc_int (br_cons brc_int (br_cons (brc_slice brs_nil) (br_cons (brc_slice brs_nil) (br_cons (brc_slice brs_nil) (br_cons (brc_slice brs_nil) (br_cons (brc_slice brs_nil) (br_cons (brc_slice brs_nil) (br_cons brc_int (br_cons brc_bool (br_cons brc_int (br_cons brc_int (br_cons brc_int (br_cons (brc_slice brs_nil) (br_cons brc_int (br_cons (brc_str (Nat.zero_le _)) (br_cons (brc_str (Nat.zero_le _)) br_nil)))))))))))))))))))))))))))))))) _ _, q1, q2⟩))
theorem val (a0 : Rows) (a1 : Row) (ha0 : Brs a0) : DV (fun k => (f k a0 a1).eval) (v a0 a1) (Pp Brs Pt) := (val2 a0 a1 ha0).mono (fun h => ⟨h.1, trivial⟩)
theorem le (a0 : Rows) (a1 : Row) (ha0 : Brs a0) : 0 ≤ (v a0 a1).2 ∧ (v a0 a1).2 ≤ rLen a0 := (val2 a0 a1 ha0).post.2
end slices_DeleteFunc_api_Pod_api_Pod_c49
namespace spread_look_2
def v (a0 : Row) (a1 : Row) : Bool := (sEq (rStr a0 0) (rStr a1 0))
theorem val (a0 : Row) (a1 : Row) : DV (fun k => (f k a0 a1).eval) (v a0 a1) Pt := (DG.ret trivial)
end spread_look_2
namespace slices_IndexFunc_api_Count_api_Count_c51
def p2 (i : Int) (q : Row) (x : Row) : (Row) ⊕ (Int ⊕ Unit) := (let r0 := (spread_look_2.v (et 54 q) [.str (rStr x 0)]); (bif r0 then (.inr (.inl i)) else (.inl [.str (rStr x 0)])))
def z2 (x : Row) : Int ⊕ Unit := (.inr ())
def w2 (c0 : Rows) (x0 : Row) : Int ⊕ Unit := walk p2 z2 c0 0 x0
def v (a0 : Rows) (a1 : Row) : Int := (Sum.elim (fun r0 => r0) (fun r1 => (-1)) (slices_IndexFunc_api_Count_api_Count_c51.w2 a0 [.str (rStr a1 0)]))
theorem w2_v (c0 : Rows) (c1 : Int) (hc0 : Brs c0) (ec1 : c1 = rLen c0) (x0 : Row) (h0 : True) : DV (fun k => iter (s2 k c0 c1) k ((fun (x : Row) (i : Int) => (x, i)) x0 0)) (w2 c0 x0) (Ps Pt Pt) := by
  subst ec1; refine DV.walk (fun (x : Row) (i : Int) => (x, i)) hc0.1 p2 z2 (fun (i : Int) (x : Row) => True) (Ps Pt Pt) (fun i x hp hi hI => ?_) (fun i x hie hi hI => ?_) x0 h0
  · have hlt := lt_of hc0.1 hi
    have hle := Int.le_of_lt hlt
    have hin := iIn_lt hp hi
    exact DG.tt hi (DG.tt hin (DG.bnd (spread_look_2.val _ _) (fun hr0 => (DG.test (fun h_2 => (DG.inr rfl trivial)) (fun h_2 => (DG.inl rfl trivial))))))
  · have hle := eq_le hc0.1 hie
    exact DG.ff hi (DG.ex rfl trivial)
theorem val (a0 : Rows) (a1 : Row) (ha0 : Brs a0) : DV (fun k => (f k a0 a1).eval) (v a0 a1) Pt := (DG.cas (slices_IndexFunc_api_Count_api_Count_c51.w2_v _ _ ha0 rfl _ trivial) (fun r0 hr0 => (DG.ret trivial)) (fun r1 hr1 => (DG.ret trivial)))
end slices_IndexFunc_api_Count_api_Count_c51
theorem slices_IndexFunc_api_Count_api_Count_c51.lt (a0 : Rows) (a1 : Row) : slices_IndexFunc_api_Count_api_Count_c51.v a0 a1 < rLen a0 := by
  have h0 : 0 ≤ rLen a0 := by unfold rLen; omega
  show Sum.elim (fun r0 => r0) (fun r1 => -1) (walk slices_IndexFunc_api_Count_api_Count_c51.p2 slices_IndexFunc_api_Count_api_Count_c51.z2 a0 0 [.str (rStr a1 0)]) < _
  rcases walk_index (p := slices_IndexFunc_api_Count_api_Count_c51.p2) (z := slices_IndexFunc_api_Count_api_Count_c51.z2) (es := a0) (i := 0) (x := [.str (rStr a1 0)]) (fun i q x => by
    unfold slices_IndexFunc_api_Count_api_Count_c51.p2
    generalize spread_look_2.v _ _ = b
    cases b
    · exact Or.inl ⟨_, rfl⟩
    · exact Or.inr rfl) (fun x => ⟨_, rfl⟩) with ⟨u, e⟩ | ⟨j, e, h1, h2⟩
  · rw [e]; show (-1 : Int) < _; omega
  · rw [e]; show j < _; omega
theorem slices_IndexFunc_api_Count_api_Count_c51.ge (a0 : Rows) (a1 : Row) : slices_IndexFunc_api_Count_api_Count_c51.v a0 a1 = -1 ∨ 0 ≤ slices_IndexFunc_api_Count_api_Count_c51.v a0 a1 := by
  show Sum.elim (fun r0 => r0) (fun r1 => -1) (walk slices_IndexFunc_api_Count_api_Count_c51.p2 slices_IndexFunc_api_Count_api_Count_c51.z2 a0 0 [.str (rStr a1 0)]) = -1 ∨ 0 ≤ Sum.elim (fun r0 => r0) (fun r1 => -1) (walk slices_IndexFunc_api_Count_api_Count_c51.p2 slices_IndexFunc_api_Count_api_Count_c51.z2 a0 0 [.str (rStr a1 0)])
  rcases walk_index (p := slices_IndexFunc_api_Count_api_Count_c51.p2) (z := slices_IndexFunc_api_Count_api_Count_c51.z2) (es := a0) (i := 0) (x := [.str (rStr a1 0)]) (fun i q x => by
    unfold slices_IndexFunc_api_Count_api_Count_c51.p2
    generalize spread_look_2.v _ _ = b
    cases b
    · exact Or.inl ⟨_, rfl⟩
    · exact Or.inr rfl) (fun x => ⟨_, rfl⟩) with ⟨u, e⟩ | ⟨j, e, h1, h2⟩
  · rw [e]; exact Or.inl rfl
  · rw [e]; exact Or.inr h1
namespace spread_look
def v (a0 : Row) (a1 : Row) (a2 : Row) (a3 : Row) : (Rows × Int × Bool) := (let r0 := (meta_KeyOf.v (et 36 a1)); (let r1 := (slices_Clone_api_Pod_api_Pod.vm (rSl a0 1)); (let r2 := (slices_DeleteFunc_api_Pod_api_Pod_c49.v (rTake r1.1 r1.2) [.str r0]); (let r3 := (spread_Counts.v [.slice 61 (rSl a0 0) .open, .slice 48 (rTake r2.1 r2.2) .open, .slice 147 (rSl a0 2) .open, .int .i64 (rInt a0 3)] (rStr a1 1) (et 29 a3)); (let r4 := (affinity_Domain.v (et 61 a2) (rStr a3 1)); (bif (bNot r4.2) then (r3, (-1), false) else (let r5 := (slices_IndexFunc_api_Count_api_Count_c51.v r3 [.str r4.1]); (r3, r5, true))))))))
theorem val (a0 : Row) (a1 : Row) (a2 : Row) (a3 : Row) (ha0 : Br a0) (ha1 : Br a1) (ha2 : Br a2) (ha3 : Br a3) (hn : Sv a0) : DV (fun k => (f k a0 a1 a2 a3).eval) (v a0 a1 a2 a3) (Pp Brs (Pp Pt Pt)) := (DG.bnd (meta_KeyOf.val _ (Br.eta ha1 _)) (fun hr0 => (DG.bnd (slices_Clone_api_Pod_api_Pod.valm _ (Br.sl ha0 _) hn.2) (fun hr1 => (DG.bnd (slices_DeleteFunc_api_Pod_api_Pod_c49.val _ _ (brs_take hr1.1 _)) (fun hr2 => (DG.bnd (spread_Counts.val _ _ _ (br_cons (brc_slice (Br.sl ha0 _)) (br_cons (brc_slice (brs_take hr2.1 _)) (br_cons (brc_slice (Br.sl ha0 _)) (br_cons brc_int br_nil)))) (Br.str ha1 _) (Br.eta ha3 _) hn.1) (fun hr3 => (DG.bnd (affinity_Domain.val _ _ (Br.eta ha2 _)) (fun hr4 => (DG.test (fun h_6 => (DG.ret ⟨hr3, ⟨trivial, trivial⟩⟩)) (fun h_6 => (DG.bnd (slices_IndexFunc_api_Count_api_Count_c51.val _ _ hr3) (fun hr5 => (DG.ret ⟨hr3, ⟨trivial, trivial⟩⟩)))))))))))))))
end spread_look
theorem spread_look.lt (a0 : Row) (a1 : Row) (a2 : Row) (a3 : Row) : (spread_look.v a0 a1 a2 a3).2.1 < rLen (spread_look.v a0 a1 a2 a3).1 := by
  unfold spread_look.v
  dsimp only
  generalize spread_Counts.v _ _ _ = r3
  generalize affinity_Domain.v _ _ = r4
  cases r4.2 with
  | false => have := rl_pos r3; show (-1 : Int) < rLen r3; omega
  | true => exact slices_IndexFunc_api_Count_api_Count_c51.lt _ _
namespace spread_Fits
def p10 (i : Int) (q : Row) (x : Int) : (Int) ⊕ (Int) := (.inl (iMin x (rInt q 1)))
def z10 (x : Int) : Int := x
def w10 (c4 : Rows) (x0 : Int) : Int := walk p10 z10 c4 0 x0
def p2 (c2 : Row) (c3 : Row) (c4 : Row) (i : Int) (q : Row) (x : Unit) : (Unit) ⊕ (Bool ⊕ Unit) := (bif (bNot (rBool q 3)) then (.inl ()) else (let r0 := (spread_look.v (et 26 c2) (et 48 c3) (et 61 c4) (et 29 q)); (bif (iLt r0.2.1 0) then (.inr (.inl false)) else (let r1 := (spread_Fits.w10 r0.1 (rInt (rAt r0.1 r0.2.1) 1)); (let r2 := (label_Matches.v (rSl q 2) (rSl c3 9)); (bif r2 then (bif (iLt (iAdd .i64 r1 (iMin (iMax (rInt q 0) 0) 1000000000000000)) (iAdd .i64 (rInt (rAt r0.1 r0.2.1) 1) 1)) then (.inr (.inl false)) else (.inl ())) else (bif (iLt (iAdd .i64 r1 (iMin (iMax (rInt q 0) 0) 1000000000000000)) (rInt (rAt r0.1 r0.2.1) 1)) then (.inr (.inl false)) else (.inl ()))))))))
def z2 (x : Unit) : Bool ⊕ Unit := (.inr ())
def w2 (c0 : Rows) (c2 : Row) (c3 : Row) (c4 : Row) : Bool ⊕ Unit := walk (p2 c2 c3 c4) z2 c0 0 ()
def v (a0 : Row) (a1 : Row) (a2 : Row) : Bool := (Sum.elim (fun r0 => r0) (fun r1 => true) (spread_Fits.w2 (rSl a1 21) (et 26 a0) (et 48 a1) (et 61 a2)))
theorem w10_v (c0 : Int) (c1 : Rows) (c2 : Int) (c3 : Int) (c4 : Rows) (c5 : Int) (c6 : Row) (c7 : Row) (c8 : Row) (c9 : Row) (hc4 : Brs c4) (ec5 : c5 = rLen c4) (x0 : Int) (h0 : True) : DV (fun k => iter (s10 k c0 c1 c2 c3 c4 c5 c6 c7 c8 c9) k ((fun (x : Int) (i : Int) => (x, i)) x0 0)) (w10 c4 x0) Pt := by
  subst ec5; refine DV.walk (fun (x : Int) (i : Int) => (x, i)) hc4.1 p10 z10 (fun (i : Int) (x : Int) => True) Pt (fun i x hp hi hI => ?_) (fun i x hie hi hI => ?_) x0 h0
  · have hlt := lt_of hc4.1 hi
    have hle := Int.le_of_lt hlt
    have hin := iIn_lt hp hi
    exact DG.tt hi (DG.tt hin (DG.inl rfl trivial))
  · have hle := eq_le hc4.1 hie
    exact DG.ff hi (DG.ex rfl trivial)
theorem w2_v (c0 : Rows) (c1 : Int) (c2 : Row) (c3 : Row) (c4 : Row) (hc0 : Brs c0) (hc2 : Br c2) (hc3 : Br c3) (hc4 : Br c4) (ec1 : c1 = rLen c0) (hn : Sv c2) (x0 : Unit) (h0 : True) : DV (fun k => iter (s2 k c0 c1 c2 c3 c4) k ((fun (x : Unit) (i : Int) => i) x0 0)) (w2 c0 c2 c3 c4) (Ps Pt Pt) := by
  subst ec1; refine DV.walk (fun (x : Unit) (i : Int) => i) hc0.1 (p2 c2 c3 c4) z2 (fun (i : Int) (x : Unit) => True) (Ps Pt Pt) (fun i x hp hi hI => ?_) (fun i x hie hi hI => ?_) x0 h0
  · have hlt := lt_of hc0.1 hi
    have hle := Int.le_of_lt hlt
    have hin := iIn_lt hp hi
    exact DG.tt hi (DG.tt hin (DG.test (fun h_1 => (DG.inl rfl trivial)) (fun h_1 => (DG.bnd (spread_look.val _ _ _ _ (Br.eta hc2 _) (Br.eta hc3 _) (Br.eta hc4 _) (Br.eta (Brs.at hc0 _) _) (sv_et hn)) (fun hr0 => (DG.test (fun h_3 => (DG.inr rfl trivial)) (fun h_3 => (DG.tt (idx_in (spread_look.lt _ _ _ _) h_3) (DG.tt (idx_in (spread_look.lt _ _ _ _) h_3) (DG.bnd (spread_Fits.w10_v _ _ _ _ _ _ _ _ _ _ hr0.1 rfl _ trivial) (fun hr1 => (DG.bnd (label_Matches.val _ _ (Br.sl (Brs.at hc0 _) _) (Br.sl hc3 _)) (fun hr2 => (DG.test (fun h_6 => (DG.test (fun h_7 => (DG.inr rfl trivial)) (fun h_7 => (DG.inl rfl trivial)))) (fun h_6 => (DG.test (fun h_8 => (DG.inr rfl trivial)) (fun h_8 => (DG.inl rfl trivial))))))))))))))))))
  · have hle := eq_le hc0.1 hie
    exact DG.ff hi (DG.ex rfl trivial)
theorem val (a0 : Row) (a1 : Row) (a2 : Row) (ha0 : Br a0) (ha1 : Br a1) (ha2 : Br a2) (hn : Sv a0) : DV (fun k => (f k a0 a1 a2).eval) (v a0 a1 a2) Pt := (DG.cas (spread_Fits.w2_v _ _ _ _ _ (Br.sl ha1 _) (Br.eta ha0 _) (Br.eta ha1 _) (Br.eta ha2 _) rfl (sv_et hn) () trivial) (fun r0 hr0 => (DG.ret trivial)) (fun r1 hr1 => (DG.ret trivial)))
end spread_Fits
namespace spread_Score
def p3 (c2 : Row) (c3 : Row) (c4 : Row) (i : Int) (q : Row) (x : Int) : (Int) ⊕ (Int) := (bif (rBool q 3) then (.inl x) else (let r0 := (spread_look.v (et 26 c2) (et 48 c3) (et 61 c4) (et 29 q)); (bif (bNot r0.2.2) then (.inl (iAdd .i64 x 40)) else (bif (iLe 0 r0.2.1) then (.inl (iAdd .i64 x (rInt (rAt r0.1 r0.2.1) 1))) else (.inl x)))))
def z3 (x : Int) : Int := x
def w3 (c0 : Rows) (c2 : Row) (c3 : Row) (c4 : Row) (x0 : Int) : Int := walk (p3 c2 c3 c4) z3 c0 0 x0
def v (a0 : Row) (a1 : Row) (a2 : Row) : Int := (let r0 := (spread_Score.w3 (rSl a1 21) (et 26 a0) (et 48 a1) (et 61 a2) 0); r0)
theorem w3_v (c0 : Rows) (c1 : Int) (c2 : Row) (c3 : Row) (c4 : Row) (hc0 : Brs c0) (hc2 : Br c2) (hc3 : Br c3) (hc4 : Br c4) (ec1 : c1 = rLen c0) (hn : Sv c2) (x0 : Int) (h0 : True) : DV (fun k => iter (s3 k c0 c1 c2 c3 c4) k ((fun (x : Int) (i : Int) => (x, i)) x0 0)) (w3 c0 c2 c3 c4 x0) Pt := by
  subst ec1; refine DV.walk (fun (x : Int) (i : Int) => (x, i)) hc0.1 (p3 c2 c3 c4) z3 (fun (i : Int) (x : Int) => True) Pt (fun i x hp hi hI => ?_) (fun i x hie hi hI => ?_) x0 h0
  · have hlt := lt_of hc0.1 hi
    have hle := Int.le_of_lt hlt
    have hin := iIn_lt hp hi
    exact DG.tt hi (DG.tt hin (DG.test (fun h_1 => (DG.inl rfl trivial)) (fun h_1 => (DG.bnd (spread_look.val _ _ _ _ (Br.eta hc2 _) (Br.eta hc3 _) (Br.eta hc4 _) (Br.eta (Brs.at hc0 _) _) (sv_et hn)) (fun hr0 => (DG.test (fun h_3 => (DG.inl rfl trivial)) (fun h_3 => (DG.test (fun h_4 => (DG.tt (decide_eq_true ⟨of_decide_eq_true h_4, spread_look.lt _ _ _ _⟩) (DG.inl rfl trivial))) (fun h_4 => (DG.inl rfl trivial))))))))))
  · have hle := eq_le hc0.1 hie
    exact DG.ff hi (DG.ex rfl trivial)
theorem val (a0 : Row) (a1 : Row) (a2 : Row) (ha0 : Br a0) (ha1 : Br a1) (ha2 : Br a2) (hn : Sv a0) : DV (fun k => (f k a0 a1 a2).eval) (v a0 a1 a2) Pt := (DG.bnd (spread_Score.w3_v _ _ _ _ _ (Br.sl ha1 _) (Br.eta ha0 _) (Br.eta ha1 _) (Br.eta ha2 _) rfl (sv_et hn) _ trivial) (fun hr0 => (DG.ret trivial)))
end spread_Score
namespace law37_awake
def v  : Bool := (let r0 := (law37_node.v (bs [110, 49]) (bs [97])); (let r1 := (law37_node.v (bs [110, 50]) (bs [98])); (let r2 := (law37_member.v (bs [112, 49]) (bs [110, 49])); (let r3 := (law37_member.v (bs [112, 50]) (bs [110, 49])); (let r4 := (law37_member.v (bs [112, 51]) (bs [110, 50])); (let r5 := (law37_member.v (bs [112, 52]) ByteArray.empty); (let r6 := (spread_Counts.v [.slice 61 [et 61 r0, et 61 r1] .open, .slice 48 [et 48 r2, et 48 r3, et 48 r4] .open, .slice 147 [] .open, .int .i64 0] (bs [110, 115]) [.int .i64 1, .str (bs [122, 111, 110, 101]), .slice 76 [[.str (bs [97, 112, 112]), .int .i64 3, .slice 9 [] .open]] .open, .bool true]); (bif (bNot (iEq (rLen r6) 2)) then false else (let r7 := bif (bIte (bAnd (sEq (rStr (rAt r6 0) 0) (bs [97])) (iEq (rInt (rAt r6 0) 1) 2)) (bAnd (sEq (rStr (rAt r6 1) 0) (bs [98])) (iEq (rInt (rAt r6 1) 1) 1)) false) then (spread_Fits.v [.slice 61 [et 61 r0, et 61 r1] .open, .slice 48 [et 48 r2, et 48 r3, et 48 r4] .open, .slice 147 [] .open, .int .i64 0] [.str (rStr r5 0), .str (rStr r5 1), .str (rStr r5 2), .int .i64 (rInt r5 3), .int .i64 (rInt r5 4), .int .i64 (rInt r5 5), .int .i64 (rInt r5 6), .bool (rBool r5 7), .int .i64 (rInt r5 8), .slice 93 (rSl r5 9) .open, .slice 149 (rSl r5 10) .open, .slice 9 (rSl r5 11) .open, .slice 151 (rSl r5 12) .open, .str (rStr r5 13), .int .i64 (rInt r5 14), .int .i64 (rInt r5 15), .int .i64 (rInt r5 16), .slice 154 (rSl r5 17) .open, .slice 76 (rSl r5 18) .open, .slice 156 (rSl r5 19) .open, .slice 158 (rSl r5 20) .open, .slice 29 [[.int .i64 1, .str (bs [122, 111, 110, 101]), .slice 76 [[.str (bs [97, 112, 112]), .int .i64 3, .slice 9 [] .open]] .open, .bool true]] .open, .slice 160 (rSl r5 22) .open, .int .i64 (rInt r5 23), .bool (rBool r5 24), .int .i64 (rInt r5 25), .int .i64 (rInt r5 26), .int .i64 (rInt r5 27), .slice 162 (rSl r5 28) .open, .int .i64 (rInt r5 29), .str (rStr r5 30), .str (rStr r5 31)] (et 61 (rAt [et 61 r0, et 61 r1] 1))) else default; (let r8 := bif (bIte (bIte (bAnd (sEq (rStr (rAt r6 0) 0) (bs [97])) (iEq (rInt (rAt r6 0) 1) 2)) (bAnd (sEq (rStr (rAt r6 1) 0) (bs [98])) (iEq (rInt (rAt r6 1) 1) 1)) false) r7 false) then (spread_Fits.v [.slice 61 [et 61 r0, et 61 r1] .open, .slice 48 [et 48 r2, et 48 r3, et 48 r4] .open, .slice 147 [] .open, .int .i64 0] [.str (rStr r5 0), .str (rStr r5 1), .str (rStr r5 2), .int .i64 (rInt r5 3), .int .i64 (rInt r5 4), .int .i64 (rInt r5 5), .int .i64 (rInt r5 6), .bool (rBool r5 7), .int .i64 (rInt r5 8), .slice 93 (rSl r5 9) .open, .slice 149 (rSl r5 10) .open, .slice 9 (rSl r5 11) .open, .slice 151 (rSl r5 12) .open, .str (rStr r5 13), .int .i64 (rInt r5 14), .int .i64 (rInt r5 15), .int .i64 (rInt r5 16), .slice 154 (rSl r5 17) .open, .slice 76 (rSl r5 18) .open, .slice 156 (rSl r5 19) .open, .slice 158 (rSl r5 20) .open, .slice 29 [[.int .i64 1, .str (bs [122, 111, 110, 101]), .slice 76 [[.str (bs [97, 112, 112]), .int .i64 3, .slice 9 [] .open]] .open, .bool true]] .open, .slice 160 (rSl r5 22) .open, .int .i64 (rInt r5 23), .bool (rBool r5 24), .int .i64 (rInt r5 25), .int .i64 (rInt r5 26), .int .i64 (rInt r5 27), .slice 162 (rSl r5 28) .open, .int .i64 (rInt r5 29), .str (rStr r5 30), .str (rStr r5 31)] (et 61 (rAt [et 61 r0, et 61 r1] 0))) else default; (let r9 := bif (bIte (bIte (bIte (bAnd (sEq (rStr (rAt r6 0) 0) (bs [97])) (iEq (rInt (rAt r6 0) 1) 2)) (bAnd (sEq (rStr (rAt r6 1) 0) (bs [98])) (iEq (rInt (rAt r6 1) 1) 1)) false) r7 false) (bNot r8) false) then (spread_Score.v [.slice 61 [et 61 r0, et 61 r1] .open, .slice 48 [et 48 r2, et 48 r3, et 48 r4] .open, .slice 147 [] .open, .int .i64 0] [.str (rStr r5 0), .str (rStr r5 1), .str (rStr r5 2), .int .i64 (rInt r5 3), .int .i64 (rInt r5 4), .int .i64 (rInt r5 5), .int .i64 (rInt r5 6), .bool (rBool r5 7), .int .i64 (rInt r5 8), .slice 93 (rSl r5 9) .open, .slice 149 (rSl r5 10) .open, .slice 9 (rSl r5 11) .open, .slice 151 (rSl r5 12) .open, .str (rStr r5 13), .int .i64 (rInt r5 14), .int .i64 (rInt r5 15), .int .i64 (rInt r5 16), .slice 154 (rSl r5 17) .open, .slice 76 (rSl r5 18) .open, .slice 156 (rSl r5 19) .open, .slice 158 (rSl r5 20) .open, .slice 29 [[.int .i64 1, .str (bs [122, 111, 110, 101]), .slice 76 [[.str (bs [97, 112, 112]), .int .i64 3, .slice 9 [] .open]] .open, .bool false]] .open, .slice 160 (rSl r5 22) .open, .int .i64 (rInt r5 23), .bool (rBool r5 24), .int .i64 (rInt r5 25), .int .i64 (rInt r5 26), .int .i64 (rInt r5 27), .slice 162 (rSl r5 28) .open, .int .i64 (rInt r5 29), .str (rStr r5 30), .str (rStr r5 31)] (et 61 (rAt [et 61 r0, et 61 r1] 0))) else default; (let r10 := bif (bIte (bIte (bIte (bIte (bAnd (sEq (rStr (rAt r6 0) 0) (bs [97])) (iEq (rInt (rAt r6 0) 1) 2)) (bAnd (sEq (rStr (rAt r6 1) 0) (bs [98])) (iEq (rInt (rAt r6 1) 1) 1)) false) r7 false) (bNot r8) false) (iEq r9 2) false) then (spread_Fits.v [.slice 61 [et 61 r0, et 61 r1] .open, .slice 48 [et 48 r2, et 48 r3, et 48 r4] .open, .slice 147 [] .open, .int .i64 0] [.str (rStr r5 0), .str (rStr r5 1), .str (rStr r5 2), .int .i64 (rInt r5 3), .int .i64 (rInt r5 4), .int .i64 (rInt r5 5), .int .i64 (rInt r5 6), .bool (rBool r5 7), .int .i64 (rInt r5 8), .slice 93 (rSl r5 9) .open, .slice 149 (rSl r5 10) .open, .slice 9 (rSl r5 11) .open, .slice 151 (rSl r5 12) .open, .str (rStr r5 13), .int .i64 (rInt r5 14), .int .i64 (rInt r5 15), .int .i64 (rInt r5 16), .slice 154 (rSl r5 17) .open, .slice 76 (rSl r5 18) .open, .slice 156 (rSl r5 19) .open, .slice 158 (rSl r5 20) .open, .slice 29 [[.int .i64 1, .str (bs [122, 111, 110, 101]), .slice 76 [[.str (bs [97, 112, 112]), .int .i64 3, .slice 9 [] .open]] .open, .bool false]] .open, .slice 160 (rSl r5 22) .open, .int .i64 (rInt r5 23), .bool (rBool r5 24), .int .i64 (rInt r5 25), .int .i64 (rInt r5 26), .int .i64 (rInt r5 27), .slice 162 (rSl r5 28) .open, .int .i64 (rInt r5 29), .str (rStr r5 30), .str (rStr r5 31)] (et 61 (rAt [et 61 r0, et 61 r1] 0))) else default; (bIte (bIte (bIte (bIte (bIte (bAnd (sEq (rStr (rAt r6 0) 0) (bs [97])) (iEq (rInt (rAt r6 0) 1) 2)) (bAnd (sEq (rStr (rAt r6 1) 0) (bs [98])) (iEq (rInt (rAt r6 1) 1) 1)) false) r7 false) (bNot r8) false) (iEq r9 2) false) r10 false)))))))))))))
theorem val  : DV (fun k => (f k ).eval) (v ) Pt := (DG.bnd (law37_node.val _ _ (Nat.le_trans (@Nat.le_of_ble_eq_true _ 2 rfl) (Nat.le_of_ble_eq_true rfl)) (Nat.le_trans (@Nat.le_of_ble_eq_true _ 1 rfl) (Nat.le_of_ble_eq_true rfl))) (fun hr0 => (DG.bnd (law37_node.val _ _ (Nat.le_trans (@Nat.le_of_ble_eq_true _ 2 rfl) (Nat.le_of_ble_eq_true rfl)) (Nat.le_trans (@Nat.le_of_ble_eq_true _ 1 rfl) (Nat.le_of_ble_eq_true rfl))) (fun hr1 => (DG.bnd (law37_member.val _ _ (Nat.le_trans (@Nat.le_of_ble_eq_true _ 2 rfl) (Nat.le_of_ble_eq_true rfl)) (Nat.le_trans (@Nat.le_of_ble_eq_true _ 2 rfl) (Nat.le_of_ble_eq_true rfl))) (fun hr2 => (DG.bnd (law37_member.val _ _ (Nat.le_trans (@Nat.le_of_ble_eq_true _ 2 rfl) (Nat.le_of_ble_eq_true rfl)) (Nat.le_trans (@Nat.le_of_ble_eq_true _ 2 rfl) (Nat.le_of_ble_eq_true rfl))) (fun hr3 => (DG.bnd (law37_member.val _ _ (Nat.le_trans (@Nat.le_of_ble_eq_true _ 2 rfl) (Nat.le_of_ble_eq_true rfl)) (Nat.le_trans (@Nat.le_of_ble_eq_true _ 2 rfl) (Nat.le_of_ble_eq_true rfl))) (fun hr4 => (DG.bnd (law37_member.val _ _ (Nat.le_trans (@Nat.le_of_ble_eq_true _ 2 rfl) (Nat.le_of_ble_eq_true rfl)) (Nat.le_trans (@Nat.le_of_ble_eq_true _ 0 rfl) (Nat.le_of_ble_eq_true rfl))) (fun hr5 => (DG.bnd (spread_Counts.val _ _ _ (br_cons (brc_slice (brs_of (Nat.le_of_ble_eq_true rfl) (all_cons (Br.eta hr0 _) (all_cons (Br.eta hr1 _) all_nil)))) (br_cons (brc_slice (brs_of (Nat.le_of_ble_eq_true rfl) (all_cons (Br.eta hr2 _) (all_cons (Br.eta hr3 _) (all_cons (Br.eta hr4 _) all_nil))))) (br_cons (brc_slice (brs_of (Nat.le_of_ble_eq_true rfl) all_nil)) (br_cons brc_int br_nil)))) (Nat.le_trans (@Nat.le_of_ble_eq_true _ 2 rfl) (Nat.le_of_ble_eq_true rfl)) (br_cons brc_int (br_cons (brc_str (Nat.le_trans (@Nat.le_of_ble_eq_true _ 4 rfl) (Nat.le_of_ble_eq_true rfl))) (br_cons (brc_slice (brs_of (Nat.le_of_ble_eq_true rfl) (all_cons (br_cons (brc_str (Nat.le_trans (@Nat.le_of_ble_eq_true _ 3 rfl) (Nat.le_of_ble_eq_true rfl))) (br_cons brc_int (br_cons (brc_slice (brs_of (Nat.le_of_ble_eq_true rfl) all_nil)) br_nil))) all_nil))) (br_cons brc_bool br_nil)))) (of_decide_eq_true (by kernel_rfl))) (fun hr6 => (DG.test (fun h_8 => (DG.ret trivial)) (fun h_8 => (DG.tt (by kernel_rfl) (DG.tt (by kernel_rfl) (DG.tt (by kernel_rfl) (DG.opt (fun h_9 => (spread_Fits.val _ _ _ (br_cons (brc_slice (brs_of (Nat.le_of_ble_eq_true rfl) (all_cons (Br.eta hr0 _) (all_cons (Br.eta hr1 _) all_nil)))) (br_cons (brc_slice (brs_of (Nat.le_of_ble_eq_true rfl) (all_cons (Br.eta hr2 _) (all_cons (Br.eta hr3 _) (all_cons (Br.eta hr4 _) all_nil))))) (br_cons (brc_slice (brs_of (Nat.le_of_ble_eq_true rfl) all_nil)) (br_cons brc_int br_nil)))) (br_cons (brc_str (Br.str hr5 _)) (br_cons (brc_str (Br.str hr5 _)) (br_cons (brc_str (Br.str hr5 _)) (br_cons brc_int (br_cons brc_int (br_cons brc_int (br_cons brc_int (br_cons brc_bool (br_cons brc_int (br_cons (brc_slice (Br.sl hr5 _)) (br_cons (brc_slice (Br.sl hr5 _)) (br_cons (brc_slice (Br.sl hr5 _)) (br_cons (brc_slice (Br.sl hr5 _)) (br_cons (brc_str (Br.str hr5 _)) (br_cons brc_int (br_cons brc_int (br_cons brc_int (br_cons (brc_slice (Br.sl hr5 _)) (br_cons (brc_slice (Br.sl hr5 _)) (br_cons (brc_slice (Br.sl hr5 _)) (br_cons (brc_slice (Br.sl hr5 _)) (br_cons (brc_slice (brs_of (Nat.le_of_ble_eq_true rfl) (all_cons (br_cons brc_int (br_cons (brc_str (Nat.le_trans (@Nat.le_of_ble_eq_true _ 4 rfl) (Nat.le_of_ble_eq_true rfl))) (br_cons (brc_slice (brs_of (Nat.le_of_ble_eq_true rfl) (all_cons (br_cons (brc_str (Nat.le_trans (@Nat.le_of_ble_eq_true _ 3 rfl) (Nat.le_of_ble_eq_true rfl))) (br_cons brc_int (br_cons (brc_slice (brs_of (Nat.le_of_ble_eq_true rfl) all_nil)) br_nil))) all_nil))) (br_cons brc_bool br_nil)))) all_nil))) (br_cons (brc_slice (Br.sl hr5 _)) (br_cons brc_int (br_cons brc_bool (br_cons brc_int (br_cons brc_int (br_cons brc_int (br_cons (brc_slice (Br.sl hr5 _)) (br_cons brc_int (br_cons (brc_str (Br.str hr5 _)) (br_cons (brc_str (Br.str hr5 _)) br_nil)))))))))))))))))))))))))))))))) (Br.eta (Brs.at (brs_of (Nat.le_of_ble_eq_true rfl) (all_cons (Br.eta hr0 _) (all_cons (Br.eta hr1 _) all_nil))) _) _) ⟨of_decide_eq_true (by kernel_rfl), of_decide_eq_true (by kernel_rfl)⟩)) (fun _ => trivial) (fun hr7 => (DG.tt (by kernel_rfl) (DG.opt (fun h_10 => (spread_Fits.val _ _ _ (br_cons (brc_slice (brs_of (Nat.le_of_ble_eq_true rfl) (all_cons (Br.eta hr0 _) (all_cons (Br.eta hr1 _) all_nil)))) (br_cons (brc_slice (brs_of (Nat.le_of_ble_eq_true rfl) (all_cons (Br.eta hr2 _) (all_cons (Br.eta hr3 _) (all_cons (Br.eta hr4 _) all_nil))))) (br_cons (brc_slice (brs_of (Nat.le_of_ble_eq_true rfl) all_nil)) (br_cons brc_int br_nil)))) (br_cons (brc_str (Br.str hr5 _)) (br_cons (brc_str (Br.str hr5 _)) (br_cons (brc_str (Br.str hr5 _)) (br_cons brc_int (br_cons brc_int (br_cons brc_int (br_cons brc_int (br_cons brc_bool (br_cons brc_int (br_cons (brc_slice (Br.sl hr5 _)) (br_cons (brc_slice (Br.sl hr5 _)) (br_cons (brc_slice (Br.sl hr5 _)) (br_cons (brc_slice (Br.sl hr5 _)) (br_cons (brc_str (Br.str hr5 _)) (br_cons brc_int (br_cons brc_int (br_cons brc_int (br_cons (brc_slice (Br.sl hr5 _)) (br_cons (brc_slice (Br.sl hr5 _)) (br_cons (brc_slice (Br.sl hr5 _)) (br_cons (brc_slice (Br.sl hr5 _)) (br_cons (brc_slice (brs_of (Nat.le_of_ble_eq_true rfl) (all_cons (br_cons brc_int (br_cons (brc_str (Nat.le_trans (@Nat.le_of_ble_eq_true _ 4 rfl) (Nat.le_of_ble_eq_true rfl))) (br_cons (brc_slice (brs_of (Nat.le_of_ble_eq_true rfl) (all_cons (br_cons (brc_str (Nat.le_trans (@Nat.le_of_ble_eq_true _ 3 rfl) (Nat.le_of_ble_eq_true rfl))) (br_cons brc_int (br_cons (brc_slice (brs_of (Nat.le_of_ble_eq_true rfl) all_nil)) br_nil))) all_nil))) (br_cons brc_bool br_nil)))) all_nil))) (br_cons (brc_slice (Br.sl hr5 _)) (br_cons brc_int (br_cons brc_bool (br_cons brc_int (br_cons brc_int (br_cons brc_int (br_cons (brc_slice (Br.sl hr5 _)) (br_cons brc_int (br_cons (brc_str (Br.str hr5 _)) (br_cons (brc_str (Br.str hr5 _)) br_nil)))))))))))))))))))))))))))))))) (Br.eta (Brs.at (brs_of (Nat.le_of_ble_eq_true rfl) (all_cons (Br.eta hr0 _) (all_cons (Br.eta hr1 _) all_nil))) _) _) ⟨of_decide_eq_true (by kernel_rfl), of_decide_eq_true (by kernel_rfl)⟩)) (fun _ => trivial) (fun hr8 => (DG.tt (by kernel_rfl) (DG.opt (fun h_11 => (spread_Score.val _ _ _ (br_cons (brc_slice (brs_of (Nat.le_of_ble_eq_true rfl) (all_cons (Br.eta hr0 _) (all_cons (Br.eta hr1 _) all_nil)))) (br_cons (brc_slice (brs_of (Nat.le_of_ble_eq_true rfl) (all_cons (Br.eta hr2 _) (all_cons (Br.eta hr3 _) (all_cons (Br.eta hr4 _) all_nil))))) (br_cons (brc_slice (brs_of (Nat.le_of_ble_eq_true rfl) all_nil)) (br_cons brc_int br_nil)))) (br_cons (brc_str (Br.str hr5 _)) (br_cons (brc_str (Br.str hr5 _)) (br_cons (brc_str (Br.str hr5 _)) (br_cons brc_int (br_cons brc_int (br_cons brc_int (br_cons brc_int (br_cons brc_bool (br_cons brc_int (br_cons (brc_slice (Br.sl hr5 _)) (br_cons (brc_slice (Br.sl hr5 _)) (br_cons (brc_slice (Br.sl hr5 _)) (br_cons (brc_slice (Br.sl hr5 _)) (br_cons (brc_str (Br.str hr5 _)) (br_cons brc_int (br_cons brc_int (br_cons brc_int (br_cons (brc_slice (Br.sl hr5 _)) (br_cons (brc_slice (Br.sl hr5 _)) (br_cons (brc_slice (Br.sl hr5 _)) (br_cons (brc_slice (Br.sl hr5 _)) (br_cons (brc_slice (brs_of (Nat.le_of_ble_eq_true rfl) (all_cons (br_cons brc_int (br_cons (brc_str (Nat.le_trans (@Nat.le_of_ble_eq_true _ 4 rfl) (Nat.le_of_ble_eq_true rfl))) (br_cons (brc_slice (brs_of (Nat.le_of_ble_eq_true rfl) (all_cons (br_cons (brc_str (Nat.le_trans (@Nat.le_of_ble_eq_true _ 3 rfl) (Nat.le_of_ble_eq_true rfl))) (br_cons brc_int (br_cons (brc_slice (brs_of (Nat.le_of_ble_eq_true rfl) all_nil)) br_nil))) all_nil))) (br_cons brc_bool br_nil)))) all_nil))) (br_cons (brc_slice (Br.sl hr5 _)) (br_cons brc_int (br_cons brc_bool (br_cons brc_int (br_cons brc_int (br_cons brc_int (br_cons (brc_slice (Br.sl hr5 _)) (br_cons brc_int (br_cons (brc_str (Br.str hr5 _)) (br_cons (brc_str (Br.str hr5 _)) br_nil)))))))))))))))))))))))))))))))) (Br.eta (Brs.at (brs_of (Nat.le_of_ble_eq_true rfl) (all_cons (Br.eta hr0 _) (all_cons (Br.eta hr1 _) all_nil))) _) _) ⟨of_decide_eq_true (by kernel_rfl), of_decide_eq_true (by kernel_rfl)⟩)) (fun _ => trivial) (fun hr9 => (DG.tt (by kernel_rfl) (DG.opt (fun h_12 => (spread_Fits.val _ _ _ (br_cons (brc_slice (brs_of (Nat.le_of_ble_eq_true rfl) (all_cons (Br.eta hr0 _) (all_cons (Br.eta hr1 _) all_nil)))) (br_cons (brc_slice (brs_of (Nat.le_of_ble_eq_true rfl) (all_cons (Br.eta hr2 _) (all_cons (Br.eta hr3 _) (all_cons (Br.eta hr4 _) all_nil))))) (br_cons (brc_slice (brs_of (Nat.le_of_ble_eq_true rfl) all_nil)) (br_cons brc_int br_nil)))) (br_cons (brc_str (Br.str hr5 _)) (br_cons (brc_str (Br.str hr5 _)) (br_cons (brc_str (Br.str hr5 _)) (br_cons brc_int (br_cons brc_int (br_cons brc_int (br_cons brc_int (br_cons brc_bool (br_cons brc_int (br_cons (brc_slice (Br.sl hr5 _)) (br_cons (brc_slice (Br.sl hr5 _)) (br_cons (brc_slice (Br.sl hr5 _)) (br_cons (brc_slice (Br.sl hr5 _)) (br_cons (brc_str (Br.str hr5 _)) (br_cons brc_int (br_cons brc_int (br_cons brc_int (br_cons (brc_slice (Br.sl hr5 _)) (br_cons (brc_slice (Br.sl hr5 _)) (br_cons (brc_slice (Br.sl hr5 _)) (br_cons (brc_slice (Br.sl hr5 _)) (br_cons (brc_slice (brs_of (Nat.le_of_ble_eq_true rfl) (all_cons (br_cons brc_int (br_cons (brc_str (Nat.le_trans (@Nat.le_of_ble_eq_true _ 4 rfl) (Nat.le_of_ble_eq_true rfl))) (br_cons (brc_slice (brs_of (Nat.le_of_ble_eq_true rfl) (all_cons (br_cons (brc_str (Nat.le_trans (@Nat.le_of_ble_eq_true _ 3 rfl) (Nat.le_of_ble_eq_true rfl))) (br_cons brc_int (br_cons (brc_slice (brs_of (Nat.le_of_ble_eq_true rfl) all_nil)) br_nil))) all_nil))) (br_cons brc_bool br_nil)))) all_nil))) (br_cons (brc_slice (Br.sl hr5 _)) (br_cons brc_int (br_cons brc_bool (br_cons brc_int (br_cons brc_int (br_cons brc_int (br_cons (brc_slice (Br.sl hr5 _)) (br_cons brc_int (br_cons (brc_str (Br.str hr5 _)) (br_cons (brc_str (Br.str hr5 _)) br_nil)))))))))))))))))))))))))))))))) (Br.eta (Brs.at (brs_of (Nat.le_of_ble_eq_true rfl) (all_cons (Br.eta hr0 _) (all_cons (Br.eta hr1 _) all_nil))) _) _) ⟨of_decide_eq_true (by kernel_rfl), of_decide_eq_true (by kernel_rfl)⟩)) (fun _ => trivial) (fun hr10 => (DG.ret trivial)))))))))))))))))))))))))))))))
end law37_awake
namespace ref03_Get
def p2 (c1 : ByteArray) (i : Int) (q : Row) (x : Unit) : (Unit) ⊕ ((ByteArray × Bool) ⊕ Unit) := (bif (sEq (rStr q 0) c1) then (.inr (.inl (rStr q 1, true))) else (.inl ()))
def z2 (x : Unit) : (ByteArray × Bool) ⊕ Unit := (.inr ())
def w2 (c0 : Rows) (c1 : ByteArray) : (ByteArray × Bool) ⊕ Unit := walk (p2 c1) z2 c0 0 ()
def v (a0 : Rows) (a1 : ByteArray) : (ByteArray × Bool) := (Sum.elim (fun r0 => (r0.1, r0.2)) (fun r1 => (ByteArray.empty, false)) (ref03_Get.w2 a0 a1))
theorem w2_v (c0 : Rows) (c1 : ByteArray) (hc0 : Brs c0) (x0 : Unit) (h0 : True) : DV (fun k => iter (s2 k c0 c1) k ((fun (x : Unit) (i : Int) => i) x0 0)) (w2 c0 c1) (Ps (Pp (Sz 140737488351232) Pt) Pt) := by
  refine DV.walk (fun (x : Unit) (i : Int) => i) hc0.1 (p2 c1) z2 (fun (i : Int) (x : Unit) => True) (Ps (Pp (Sz 140737488351232) Pt) Pt) (fun i x hp hi hI => ?_) (fun i x hie hi hI => ?_) x0 h0
  · have hlt := lt_of hc0.1 hi
    have hle := Int.le_of_lt hlt
    have hin := iIn_lt hp hi
    exact DG.tt hi (DG.tt (iIn_lt hp hi) (DG.test (fun h_1 => (DG.tt (iIn_lt hp hi) (DG.inr rfl ⟨(Br.str (Brs.at hc0 _) _), trivial⟩))) (fun h_1 => (DG.inl rfl trivial))))
  · have hle := eq_le hc0.1 hie
    exact DG.ff hi (DG.ex rfl trivial)
theorem val (a0 : Rows) (a1 : ByteArray) (ha0 : Brs a0) : DV (fun k => (f k a0 a1).eval) (v a0 a1) (Pp (Sz 140737488351232) Pt) := (DG.cas (ref03_Get.w2_v _ _ ha0 () trivial) (fun r0 hr0 => (DG.ret ⟨hr0.1, trivial⟩)) (fun r1 hr1 => (DG.ret ⟨(Nat.le_trans (@Nat.le_of_ble_eq_true _ 0 rfl) (Nat.le_of_ble_eq_true rfl)), trivial⟩)))
end ref03_Get
namespace ref36_Domain
def v (a0 : Row) (a1 : ByteArray) : (ByteArray × Bool) := (let r0 := (ref03_Get.v (rSl a0 9) a1); (r0.1, r0.2))
theorem val (a0 : Row) (a1 : ByteArray) (ha0 : Br a0) : DV (fun k => (f k a0 a1).eval) (v a0 a1) (Pp (Sz 140737488351232) Pt) := (DG.bnd (ref03_Get.val _ _ (Br.sl ha0 _)) (fun hr0 => (DG.ret ⟨hr0.1, trivial⟩)))
end ref36_Domain
namespace ref10_put
def p4 (c1 : ByteArray) (i : Int) (q : Row) (x : Rows × Bool) : (Rows × Bool) ⊕ (Rows × Bool) := (bif (bIte (bNot x.2) (bOr (sLt c1 (rStr q 0)) (sEq c1 (rStr q 0))) false) then (bif (bNot (sEq (rStr q 0) c1)) then (.inl ((rCat (rCat x.1 [[.str c1]]) [[.str (rStr q 0)]]), true)) else (.inl ((rCat x.1 [[.str c1]]), true))) else (bif (bNot (sEq (rStr q 0) c1)) then (.inl ((rCat x.1 [[.str (rStr q 0)]]), x.2)) else (.inl (x.1, x.2))))
def z4 (x : Rows × Bool) : Rows × Bool := (x.1, x.2)
def w4 (c0 : Rows) (c1 : ByteArray) : Rows × Bool := walk (p4 c1) z4 c0 0 ([], false)
def v (a0 : Rows) (a1 : ByteArray) : Rows := (let r0 := (ref10_put.w4 a0 a1); (bif (bNot r0.2) then (rCat r0.1 [[.str a1]]) else r0.1))
def Gr (i : Int) (x : Rows × Bool) : Prop := Grow (i + (bif x.2 then 1 else 0)) x.1
theorem w4_v (c0 : Rows) (c1 : ByteArray) (h0 : Brs c0) (hc : Sz 140737488351232 c1) (hn : rLen c0 ≤ 1048575) : DV (fun k => iter (s4 k c0 c1) k ((fun (x : Rows × Bool) (i : Int) => (x.1, x.2, i)) ([], false) 0)) (w4 c0 c1) (Gr (rLen c0)) := by
  refine DV.walk (fun (x : Rows × Bool) (i : Int) => (x.1, x.2, i)) h0.1 (p4 c1) z4 (fun (i : Int) (x : Rows × Bool) => Gr i x) _ (fun i x hp hi hI => ?_) (fun i x hie hi hI => ?_) _ Grow.nil
  · have hin := iIn_lt hp hi
    have hlt := of_decide_eq_true hi
    have hbq : Br [V.str (rStr (rAt c0 i) 0)] := br_cons (Br.str (h0.at i) 0) br_nil
    have hbc : Br [V.str c1] := br_cons hc br_nil
    obtain ⟨y, b⟩ := x
    cases b with
    | false =>
      have hg : Grow i y := ⟨by have := hI.1; show rLen y ≤ i; have e : rLen y ≤ i + 0 := this; omega, hI.2⟩
      have h1 : Grow (i + 1) (rCat y [[.str c1]]) := hg.push hbc
      refine DG.tt hi (DG.tt (bimp_ hin) (DG.test (fun hb => DG.tt (hg.ok (by omega) (by decide)) (DG.tt hin (DG.test (fun hc => DG.tt hin (DG.tt (h1.ok (by omega) (by decide)) (DG.inl rfl ?_))) (fun hc => DG.inl rfl ?_)))) (fun hb => DG.tt hin (DG.test (fun hc => DG.tt hin (DG.tt (hg.ok (by omega) (by decide)) (DG.inl rfl ?_))) (fun hc => DG.inl rfl ?_)))))
      · exact h1.push hbq
      · exact ⟨by have := h1.1; show rLen (rCat y [[.str c1]]) ≤ i + 1 + 1; omega, h1.2⟩
      · have := hg.push hbq; exact ⟨by have := this.1; show rLen (rCat y [[.str (rStr (rAt c0 i) 0)]]) ≤ i + 1 + 0; omega, this.2⟩
      · exact ⟨by have := hg.1; show rLen y ≤ i + 1 + 0; omega, hg.2⟩
    | true =>
      have hg : Grow (i + 1) y := hI
      refine DG.tt hi (DG.tt rfl (DG.ff rfl (DG.tt hin (DG.test (fun hc => DG.tt hin (DG.tt (hg.ok (by omega) (by decide)) (DG.inl rfl ?_))) (fun hc => DG.inl rfl ?_)))))
      · exact hg.push hbq
      · exact hg.same
  · subst hie
    exact DG.ff hi (DG.ex rfl hI)
theorem val2 (a0 : Rows) (a1 : ByteArray) (h0 : Brs a0) (hc : Sz 140737488351232 a1) (hn : rLen a0 ≤ 1048575) : DV (fun k => (f k a0 a1).eval) (v a0 a1) (Grow (rLen a0 + 1)) := by
  have hb : Br [V.str a1] := br_cons hc br_nil
  unfold v
  dsimp only
  refine DG.bnd (w4_v a0 a1 h0 hc hn) (fun h => ?_)
  generalize w4 a0 a1 = r0 at h ⊢
  obtain ⟨y, b⟩ := r0
  dsimp only
  cases b with
  | false =>
    have hg : Grow (rLen a0) y := ⟨by have := h.1; have e : rLen y ≤ rLen a0 + 0 := this; omega, h.2⟩
    exact DG.tt rfl (DG.tt (hg.ok (by omega) (by decide)) (DG.ret (hg.push hb)))
  | true => exact DG.ff rfl (DG.ret h)
end ref10_put
namespace ref10_Union
def p3 (i : Int) (q : Row) (x : Rows) : Rows ⊕ Rows := .inl (ref10_put.v x (rStr q 0))
def w3 (c0 : Rows) (x0 : Rows) : Rows := walk p3 (fun x => x) c0 0 x0
def v (a0 : Rows) (a1 : Rows) : Rows := w3 a1 (w3 a0 [])
theorem w_v {s : Nat → Rows × Int → T ((Rows × Int) ⊕ Rows)} (c0 : Rows) (n : Int) (x0 : Rows) (h0 : Brs c0) (hn : 0 ≤ n ∧ n + rLen c0 ≤ 1048576) (hx : Grow n x0)
    (hs : ∀ k x, s k x = .test (iLt x.2 (rLen c0)) (.test (iIn x.2 (rLen c0)) (.bnd (ref10_put.f k x.1 (rStr (rAt c0 x.2) 0)).eval default fun r0 => .ret (.inl (r0, (iAdd .i64 x.2 (1))))) .fail) (.ret (.inr x.1))) :
    DV (fun k => iter (s k) k ((fun (x : Rows) (i : Int) => (x, i)) x0 0)) (w3 c0 x0) (Grow (n + rLen c0)) := by
  refine DV.walk (fun (x : Rows) (i : Int) => (x, i)) h0.1 p3 (fun x => x) (fun (i : Int) (x : Rows) => Grow (n + i) x) _ (fun i x hp hi hI => ?_) (fun i x hie hi hI => ?_) x0 ⟨by have := hx.1; omega, hx.2⟩
  · have hin := iIn_lt hp hi
    have hlt := of_decide_eq_true hi
    have hb : Brs x := hI.done (by omega)
    have hl := hI.1
    simp only [hs]
    refine DG.tt hi (DG.tt hin (DG.bnd (ref10_put.val2 _ _ hb (Br.str (h0.at i) 0) (by omega)) (fun h => DG.inl rfl ⟨by have := h.1; omega, h.2⟩)))
  · subst hie
    simp only [hs]
    exact DG.ff hi (DG.ex rfl hI)
theorem val2 (a0 : Rows) (a1 : Rows) (h0 : Brs a0) (h1 : Brs a1) (hn : rLen a0 + rLen a1 ≤ 1048576) : DV (fun k => (f k a0 a1).eval) (v a0 a1) (Grow (rLen a0 + rLen a1)) := by
  have hp0 := rl_pos a0
  have hp1 := rl_pos a1
  refine DG.bnd (w_v a0 0 [] h0 (by omega) Grow.nil (fun k x => rfl)) (fun h => ?_)
  refine DG.bnd (w_v a1 (rLen a0) _ h1 (by omega) ⟨by have := h.1; omega, h.2⟩ (fun k x => rfl)) (fun h2 => DG.ret h2)
end ref10_Union
namespace ref37_domain
def p2 (c0 : ByteArray) (c1 : ByteArray) (i : Int) (q : Row) (x : Unit) : (Unit) ⊕ ((ByteArray × Bool) ⊕ Unit) := (bif (sEq (rStr q 2) c0) then (let r0 := (ref36_Domain.v (et 61 q) c1); (.inr (.inl (r0.1, r0.2)))) else (.inl ()))
def z2 (x : Unit) : (ByteArray × Bool) ⊕ Unit := (.inr ())
def w2 (c0 : ByteArray) (c1 : ByteArray) (c2 : Row) : (ByteArray × Bool) ⊕ Unit := walk (p2 c0 c1) z2 (rSl c2 0) 0 ()
def v (a0 : Row) (a1 : ByteArray) (a2 : ByteArray) : (ByteArray × Bool) := (Sum.elim (fun r0 => (r0.1, r0.2)) (fun r1 => (ByteArray.empty, false)) (ref37_domain.w2 a1 a2 (et 26 a0)))
theorem w2_v (c0 : ByteArray) (c1 : ByteArray) (c2 : Row) (hc2 : Br c2) (x0 : Unit) (h0 : True) : DV (fun k => iter (s2 k c0 c1 c2) k ((fun (x : Unit) (i : Int) => i) x0 0)) (w2 c0 c1 c2) (Ps (Pp (Sz 140737488351232) Pt) Pt) := by
  refine DV.walk (fun (x : Unit) (i : Int) => i) (Br.sl hc2 _).1 (p2 c0 c1) z2 (fun (i : Int) (x : Unit) => True) (Ps (Pp (Sz 140737488351232) Pt) Pt) (fun i x hp hi hI => ?_) (fun i x hie hi hI => ?_) x0 h0
  · have hlt := lt_of (Br.sl hc2 _).1 hi
    have hle := Int.le_of_lt hlt
    have hin := iIn_lt hp hi
    exact DG.tt hi (DG.tt (iIn_lt hp hi) (DG.test (fun h_1 => (DG.tt (iIn_lt hp hi) (DG.bnd (ref36_Domain.val _ _ (Br.eta (Brs.at (Br.sl hc2 _) _) _)) (fun hr0 => (DG.inr rfl ⟨hr0.1, trivial⟩))))) (fun h_1 => (DG.inl rfl trivial))))
  · have hle := eq_le (Br.sl hc2 _).1 hie
    exact DG.ff hi (DG.ex rfl trivial)
theorem val (a0 : Row) (a1 : ByteArray) (a2 : ByteArray) (ha0 : Br a0) : DV (fun k => (f k a0 a1 a2).eval) (v a0 a1 a2) (Pp (Sz 140737488351232) Pt) := (DG.cas (ref37_domain.w2_v _ _ _ (Br.eta ha0 _) () trivial) (fun r0 hr0 => (DG.ret ⟨hr0.1, trivial⟩)) (fun r1 hr1 => (DG.ret ⟨(Nat.le_trans (@Nat.le_of_ble_eq_true _ 0 rfl) (Nat.le_of_ble_eq_true rfl)), trivial⟩)))
end ref37_domain
namespace ref33_Active
def v (a0 : Row) : Bool := (bIte (bIte (iEq (rInt a0 23) 0) true (iEq (rInt a0 23) 1)) (bNot (rBool a0 7)) false)
theorem val (a0 : Row) : DV (fun k => (f k a0).eval) (v a0) Pt := (DG.ret trivial)
end ref33_Active
namespace ref03_among
def p2 (c1 : ByteArray) (i : Int) (q : Row) (x : Unit) : (Unit) ⊕ (Bool ⊕ Unit) := (bif (sEq (rStr q 0) c1) then (.inr (.inl true)) else (.inl ()))
def z2 (x : Unit) : Bool ⊕ Unit := (.inr ())
def w2 (c0 : Rows) (c1 : ByteArray) : Bool ⊕ Unit := walk (p2 c1) z2 c0 0 ()
def v (a0 : Rows) (a1 : ByteArray) : Bool := (Sum.elim (fun r0 => r0) (fun r1 => false) (ref03_among.w2 a0 a1))
theorem w2_v (c0 : Rows) (c1 : ByteArray) (hc0 : Brs c0) (x0 : Unit) (h0 : True) : DV (fun k => iter (s2 k c0 c1) k ((fun (x : Unit) (i : Int) => i) x0 0)) (w2 c0 c1) (Ps Pt Pt) := by
  refine DV.walk (fun (x : Unit) (i : Int) => i) hc0.1 (p2 c1) z2 (fun (i : Int) (x : Unit) => True) (Ps Pt Pt) (fun i x hp hi hI => ?_) (fun i x hie hi hI => ?_) x0 h0
  · have hlt := lt_of hc0.1 hi
    have hle := Int.le_of_lt hlt
    have hin := iIn_lt hp hi
    exact DG.tt hi (DG.tt (iIn_lt hp hi) (DG.test (fun h_1 => (DG.inr rfl trivial)) (fun h_1 => (DG.inl rfl trivial))))
  · have hle := eq_le hc0.1 hie
    exact DG.ff hi (DG.ex rfl trivial)
theorem val (a0 : Rows) (a1 : ByteArray) (ha0 : Brs a0) : DV (fun k => (f k a0 a1).eval) (v a0 a1) Pt := (DG.cas (ref03_among.w2_v _ _ ha0 () trivial) (fun r0 hr0 => (DG.ret trivial)) (fun r1 hr1 => (DG.ret trivial)))
end ref03_among
namespace ref03_holds
def v (a0 : Row) (a1 : Rows) : Bool := (let r0 := (ref03_Get.v a1 (rStr a0 0)); (bif (iEq (rInt a0 1) 1) then (let r1 := bif r0.2 then (ref03_among.v (rSl a0 2) r0.1) else default; (bIte r0.2 r1 false)) else (bif (iEq (rInt a0 1) 2) then (let r2 := bif (bNot (bNot r0.2)) then (ref03_among.v (rSl a0 2) r0.1) else default; (bIte (bNot r0.2) true (bNot r2))) else (bIte (bIte (iEq (rInt a0 1) 3) r0.2 false) true (bIte (iEq (rInt a0 1) 4) (bNot r0.2) false)))))
theorem val (a0 : Row) (a1 : Rows) (ha0 : Br a0) (ha1 : Brs a1) : DV (fun k => (f k a0 a1).eval) (v a0 a1) Pt := (DG.bnd (ref03_Get.val _ _ ha1) (fun hr0 => (DG.test (fun h_2 => (DG.opt (fun h_3 => (ref03_among.val _ _ (Br.sl ha0 _))) (fun _ => trivial) (fun hr1 => (DG.ret trivial)))) (fun h_2 => (DG.test (fun h_4 => (DG.opt (fun h_5 => (ref03_among.val _ _ (Br.sl ha0 _))) (fun _ => trivial) (fun hr2 => (DG.ret trivial)))) (fun h_4 => (DG.ret trivial)))))))
end ref03_holds
namespace ref03_Matches
def p2 (c1 : Rows) (i : Int) (q : Row) (x : Unit) : (Unit) ⊕ (Bool ⊕ Unit) := (let r0 := (ref03_holds.v (et 76 q) c1); (bif (bNot r0) then (.inr (.inl false)) else (.inl ())))
def z2 (x : Unit) : Bool ⊕ Unit := (.inr ())
def w2 (c0 : Rows) (c1 : Rows) : Bool ⊕ Unit := walk (p2 c1) z2 c0 0 ()
def v (a0 : Rows) (a1 : Rows) : Bool := (Sum.elim (fun r0 => r0) (fun r1 => true) (ref03_Matches.w2 a0 a1))
theorem w2_v (c0 : Rows) (c1 : Rows) (hc0 : Brs c0) (hc1 : Brs c1) (x0 : Unit) (h0 : True) : DV (fun k => iter (s2 k c0 c1) k ((fun (x : Unit) (i : Int) => i) x0 0)) (w2 c0 c1) (Ps Pt Pt) := by
  refine DV.walk (fun (x : Unit) (i : Int) => i) hc0.1 (p2 c1) z2 (fun (i : Int) (x : Unit) => True) (Ps Pt Pt) (fun i x hp hi hI => ?_) (fun i x hie hi hI => ?_) x0 h0
  · have hlt := lt_of hc0.1 hi
    have hle := Int.le_of_lt hlt
    have hin := iIn_lt hp hi
    exact DG.tt hi (DG.tt (iIn_lt hp hi) (DG.bnd (ref03_holds.val _ _ (Br.eta (Brs.at hc0 _) _) hc1) (fun hr0 => (DG.test (fun h_2 => (DG.inr rfl trivial)) (fun h_2 => (DG.inl rfl trivial))))))
  · have hle := eq_le hc0.1 hie
    exact DG.ff hi (DG.ex rfl trivial)
theorem val (a0 : Rows) (a1 : Rows) (ha0 : Brs a0) (ha1 : Brs a1) : DV (fun k => (f k a0 a1).eval) (v a0 a1) Pt := (DG.cas (ref03_Matches.w2_v _ _ ha0 ha1 () trivial) (fun r0 hr0 => (DG.ret trivial)) (fun r1 hr1 => (DG.ret trivial)))
end ref03_Matches
namespace ref37_Counts
def p3 (t : ByteArray) (i : Int) (q : Row) (x : Rows) : Rows ⊕ Rows :=
  let r0 := ref36_Domain.v (et 61 q) t
  .inl (bif r0.2 then ref10_Union.v x [[.str r0.1]] else x)
def w3 (t : ByteArray) (ns : Rows) : Rows := walk (p3 t) (fun x => x) ns 0 []
def okQ (ns : ByteArray) (d : ByteArray) (vw ru : Row) (q : Row) : Bool :=
  let r0 := ref37_domain.v (et 26 vw) (rStr q 13) (rStr ru 1)
  bIte (bIte (bIte (bIte r0.2 (sEq r0.1 d) false) (ref33_Active.v (et 48 q)) false) (sEq (rStr q 1) ns) false) (ref03_Matches.v (rSl ru 2) (rSl q 9)) false
def p14 (c0 : ByteArray) (d : ByteArray) (c4 c5 : Row) (i : Int) (q : Row) (x : Row) : Row ⊕ Row :=
  bif okQ c0 d c4 c5 q then .inl [.str (rStr x 0), .int .i64 (iAdd .i64 (rInt x 1) 1)] else .inl (et 54 x)
def z14 (x : Row) : Row := et 54 x
def w14 (c0 : ByteArray) (d : ByteArray) (c4 c5 : Row) (x0 : Row) : Row := walk (p14 c0 d c4 c5) z14 (rSl c4 1) 0 x0
def p10 (c0 : ByteArray) (c2 c3 : Row) (i : Int) (q : Row) (x : Rows) : Rows ⊕ Rows :=
  .inl (rCat x [et 54 (w14 c0 (rStr q 0) (et 26 c2) (et 29 c3) [.str (rStr q 0), .int .i64 (0)])])
def w10 (c0 : ByteArray) (c1 : Rows) (c2 c3 : Row) : Rows := walk (p10 c0 c2 c3) (fun x => x) c1 0 []
def nm (a0 : Row) (a2 : Row) : Rows := w3 (rStr a2 1) (rSl a0 0)
def v (a0 : Row) (a1 : ByteArray) (a2 : Row) : Rows := w10 a1 (nm a0 a2) (et 26 a0) (et 29 a2)
theorem w3_v (c0 : ByteArray) (c1 c2 : Row) (h1 : Br c1) (h2 : Br c2) (hn : rLen (rSl c1 0) ≤ 1048576) : DV (fun k => iter (s3 k c0 c1 c2) k ((fun (x : Rows) (i : Int) => (x, i)) [] 0)) (w3 (rStr c2 1) (rSl c1 0)) (Grow (rLen (rSl c1 0))) := by
  refine DV.walk (fun (x : Rows) (i : Int) => (x, i)) (h1.sl 0).1 (p3 (rStr c2 1)) (fun x => x) (fun (i : Int) (x : Rows) => Grow i x) _ (fun i x hp hi hI => ?_) (fun i x hie hi hI => ?_) [] Grow.nil
  · have hin := iIn_lt hp hi
    have hlt := of_decide_eq_true hi
    have hle := hn
    have hq := (h1.sl 0).at i
    have hv := ref36_Domain.val (et 61 (rAt (rSl c1 0) i)) (rStr c2 1) (Br.eta hq _)
    refine DG.tt hi (DG.tt hin (DG.bnd hv (fun hd => ?_)))
    unfold p3
    dsimp only
    have hs := hv.post.1
    generalize ref36_Domain.v (et 61 (rAt (rSl c1 0) i)) (rStr c2 1) = r0 at hs ⊢
    obtain ⟨d, b⟩ := r0
    cases b with
    | true =>
      have hl : rLen ([[.str d]] : Rows) = 1 := rfl
      refine DG.tt rfl (DG.bnd (ref10_Union.val2 x [[.str d]] (hI.done (by omega)) (brs_of (Nat.le_of_ble_eq_true rfl) (all_cons (br_cons hs br_nil) all_nil)) (by have := hI.1; omega)) (fun h => DG.inl rfl ⟨?_, h.2⟩))
      have := h.1
      have := hI.1
      show rLen (ref10_Union.v x [[.str d]]) ≤ i + 1
      omega
    | false => exact DG.ff rfl (DG.inl rfl hI.same)
  · subst hie
    exact DG.ff hi (DG.ex rfl hI)
theorem w14_v (c0 : ByteArray) (c1 c2 : Rows) (c3 : Int) (c4 c5 : Row) (x0 : Row) (h4 : Br c4) (h5 : Br c5) (h3 : iIn c3 (rLen c1) = true) (hx : Br x0) : DV (fun k => iter (s14 k c0 c1 c2 c3 c4 c5) k ((fun (x : Row) (i : Int) => (i, x)) x0 0)) (w14 c0 (rStr (rAt c1 c3) 0) c4 c5 x0) Br := by
  refine DV.walk (fun (x : Row) (i : Int) => (i, x)) (h4.sl 1).1 (p14 c0 (rStr (rAt c1 c3) 0) c4 c5) z14 (fun (i : Int) (x : Row) => Br x) _ (fun i x hp hi hI => ?_) (fun i x hie hi hI => ?_) x0 hx
  · have hin := iIn_lt hp hi
    have hq := (h4.sl 1).at i
    refine DG.tt hi (DG.tt hin (DG.bnd (ref37_domain.val _ _ _ (Br.eta h4 _)) (fun hd => ?_)))
    refine DG.tt (bimp_ h3) ?_
    refine DG.opt (fun _ => ref33_Active.val _) (fun _ => trivial) (fun _ => ?_)
    refine DG.opt (fun _ => ref03_Matches.val _ _ (h5.sl 2) (hq.sl 9)) (fun _ => trivial) (fun _ => ?_)
    have hok : ∀ (a z b c d : Bool), bIte (bIte (bIte (bIte a z false) (bif (bIte a z false) then b else default) false) c false) (bif (bIte (bIte (bIte a z false) (bif (bIte a z false) then b else default) false) c false) then d else default) false = bIte (bIte (bIte (bIte a z false) b false) c false) d false := by
      intro a z b c d; cases a <;> cases z <;> cases b <;> cases c <;> rfl
    rw [hok]
    refine DG.test (fun hb => DG.inl rfl (br_cons (Br.str hI 0) (br_cons brc_int br_nil))) (fun hb => DG.inl rfl (Br.eta hI _))
  · subst hie
    exact DG.ff hi (DG.ex rfl (Br.eta hI _))
theorem w10_v (c0 : ByteArray) (c1 : Rows) (c2 c3 : Row) (h1 : Brs c1) (h2 : Br c2) (h3 : Br c3) (hn : rLen c1 ≤ 1048576) : DV (fun k => iter (s10 k c0 c1 c2 c3) k ((fun (x : Rows) (i : Int) => (x, i)) [] 0)) (w10 c0 c1 c2 c3) Brs := by
  refine DV.walk (fun (x : Rows) (i : Int) => (x, i)) h1.1 (p10 c0 c2 c3) (fun x => x) (fun (i : Int) (x : Rows) => Grow i x) _ (fun i x hp hi hI => ?_) (fun i x hie hi hI => ?_) [] Grow.nil
  · have hin := iIn_lt hp hi
    have hlt := of_decide_eq_true hi
    have hle := hn
    have hb : Br [V.str (rStr (rAt c1 i) 0), V.int .i64 (0)] := br_cons (Br.str (h1.at i) 0) (br_cons brc_int br_nil)
    exact DG.tt hi (DG.tt hin (DG.bnd (w14_v c0 c1 x i _ _ _ (Br.eta h2 _) (Br.eta h3 _) hin hb) (fun h => DG.tt (hI.ok (by omega) (by decide)) (DG.inl rfl (hI.push (Br.eta h _))))))
  · subst hie
    exact DG.ff hi (DG.ex rfl (hI.done (rl_le h1)))
theorem val (a0 : Row) (a1 : ByteArray) (a2 : Row) (ha0 : Br a0) (ha1 : Sz 140737488351232 a1) (ha2 : Br a2) (hn : rLen (rSl a0 0) ≤ 1048576) : DV (fun k => (f k a0 a1 a2).eval) (v a0 a1 a2) Brs := by
  have hle := hn
  refine DG.bnd (w3_v a1 (et 26 a0) (et 29 a2) (Br.eta ha0 _) (Br.eta ha2 _) (le_et0 hn)) (fun h => ?_)
  refine DG.bnd (w10_v a1 _ (et 26 a0) (et 29 a2) (h.done (Int.le_trans (le_et0 hn) (by decide))) (Br.eta ha0 _) (Br.eta ha2 _) (Int.le_trans h.1 (le_et0 hn))) (fun h2 => DG.ret h2)
end ref37_Counts
namespace law37_SpreadCounts
def p7 (c1 : Rows) (i : Int) (q : Row) (x : Unit) : (Unit) ⊕ (Bool ⊕ Unit) := (bif (bNot (bAnd (sEq (rStr q 0) (rStr (rAt c1 i) 0)) (iEq (rInt q 1) (rInt (rAt c1 i) 1)))) then (.inr (.inl false)) else (.inl ()))
def z7 (x : Unit) : Bool ⊕ Unit := (.inr ())
def w7 (c0 : Rows) (c1 : Rows) : Bool ⊕ Unit := walk (p7 c1) z7 c0 0 ()
def v (a0 : Row) (a1 : ByteArray) (a2 : Row) : Bool := (let r0 := (law37_heavy.v (et 26 a0) [.str ByteArray.empty, .str ByteArray.empty, .str ByteArray.empty, .int .i64 0, .int .i64 0, .int .i64 0, .int .i64 0, .bool false, .int .i64 0, .slice 93 [] .open, .slice 149 [] .open, .slice 9 [] .open, .slice 151 [] .open, .str ByteArray.empty, .int .i64 0, .int .i64 0, .int .i64 0, .slice 154 [] .open, .slice 76 [] .open, .slice 156 [] .open, .slice 158 [] .open, .slice 29 [] .open, .slice 160 [] .open, .int .i64 0, .bool false, .int .i64 0, .int .i64 0, .int .i64 0, .slice 162 [] .open, .int .i64 0, .str ByteArray.empty, .str ByteArray.empty]); (let r1 := bif (bNot r0) then (law37_wide.v (rSl a2 2)) else default; (bif (bIte r0 true r1) then (let r2 := (law37_awake.v ); r2) else (let r3 := (spread_Counts.v (et 26 a0) a1 (et 29 a2)); (let r4 := (ref37_Counts.v (et 26 a0) a1 (et 29 a2)); (bif (bNot (iEq (rLen r3) (rLen r4))) then false else (Sum.elim (fun r5 => r5) (fun r6 => (let r7 := (law37_awake.v ); r7)) (law37_SpreadCounts.w7 r3 r4))))))))
theorem w7_v (c0 : Rows) (c1 : Rows) (hc0 : Brs c0) (hn : rLen c0 = rLen c1) (x0 : Unit) (h0 : True) : DV (fun k => iter (s7 k c0 c1) k ((fun (x : Unit) (i : Int) => i) x0 0)) (w7 c0 c1) (Ps Pt Pt) := by
  refine DV.walk (fun (x : Unit) (i : Int) => i) hc0.1 (p7 c1) z7 (fun (i : Int) (x : Unit) => True) (Ps Pt Pt) (fun i x hp hi hI => ?_) (fun i x hie hi hI => ?_) x0 h0
  · have hlt := lt_of hc0.1 hi
    have hle := Int.le_of_lt hlt
    have hin := iIn_lt hp hi
    exact DG.tt hi (DG.tt (iIn_lt hp hi) (DG.tt (iin_eqn hn.symm hp hi) (DG.test (fun h_1 => (DG.inr rfl trivial)) (fun h_1 => (DG.inl rfl trivial)))))
  · have hle := eq_le hc0.1 hie
    exact DG.ff hi (DG.ex rfl trivial)
theorem val (a0 : Row) (a1 : ByteArray) (a2 : Row) (ha0 : Br a0) (ha1 : Sz 140737488351232 a1) (ha2 : Br a2) : DV (fun k => (f k a0 a1 a2).eval) (v a0 a1 a2) Pt := (DG.bnd (law37_heavy.val _ _ (Br.eta ha0 _) (br_cons (brc_str (Nat.le_trans (@Nat.le_of_ble_eq_true _ 0 rfl) (Nat.le_of_ble_eq_true rfl))) (br_cons (brc_str (Nat.le_trans (@Nat.le_of_ble_eq_true _ 0 rfl) (Nat.le_of_ble_eq_true rfl))) (br_cons (brc_str (Nat.le_trans (@Nat.le_of_ble_eq_true _ 0 rfl) (Nat.le_of_ble_eq_true rfl))) (br_cons brc_int (br_cons brc_int (br_cons brc_int (br_cons brc_int (br_cons brc_bool (br_cons brc_int (br_cons (brc_slice (brs_of (Nat.le_of_ble_eq_true rfl) all_nil)) (br_cons (brc_slice (brs_of (Nat.le_of_ble_eq_true rfl) all_nil)) (br_cons (brc_slice (brs_of (Nat.le_of_ble_eq_true rfl) all_nil)) (br_cons (brc_slice (brs_of (Nat.le_of_ble_eq_true rfl) all_nil)) (br_cons (brc_str (Nat.le_trans (@Nat.le_of_ble_eq_true _ 0 rfl) (Nat.le_of_ble_eq_true rfl))) (br_cons brc_int (br_cons brc_int (br_cons brc_int (br_cons (brc_slice (brs_of (Nat.le_of_ble_eq_true rfl) all_nil)) (br_cons (brc_slice (brs_of (Nat.le_of_ble_eq_true rfl) all_nil)) (br_cons (brc_slice (brs_of (Nat.le_of_ble_eq_true rfl) all_nil)) (br_cons (brc_slice (brs_of (Nat.le_of_ble_eq_true rfl) all_nil)) (br_cons (brc_slice (brs_of (Nat.le_of_ble_eq_true rfl) all_nil)) (br_cons (brc_slice (brs_of (Nat.le_of_ble_eq_true rfl) all_nil)) (br_cons brc_int (br_cons brc_bool (br_cons brc_int (br_cons brc_int (br_cons brc_int (br_cons (brc_slice (brs_of (Nat.le_of_ble_eq_true rfl) all_nil)) (br_cons brc_int (br_cons (brc_str (Nat.le_trans (@Nat.le_of_ble_eq_true _ 0 rfl) (Nat.le_of_ble_eq_true rfl))) (br_cons (brc_str (Nat.le_trans (@Nat.le_of_ble_eq_true _ 0 rfl) (Nat.le_of_ble_eq_true rfl))) br_nil))))))))))))))))))))))))))))))))) (fun hr0 => (DG.opt (fun h_2 => (law37_wide.val _ (Br.sl ha2 _))) (fun _ => trivial) (fun hr1 => (DG.test (fun h_3 => (DG.bnd (law37_awake.val ) (fun hr2 => (DG.ret trivial)))) (fun h_3 => (DG.bnd (spread_Counts.val _ _ _ (Br.eta ha0 _) ha1 (Br.eta ha2 _) (heavy_small (bite_ff h_3)).1) (fun hr3 => (DG.bnd (ref37_Counts.val _ _ _ (Br.eta ha0 _) ha1 (Br.eta ha2 _) (heavy_small (bite_ff h_3)).1) (fun hr4 => (DG.test (fun h_7 => (DG.ret trivial)) (fun h_7 => (DG.cas (law37_SpreadCounts.w7_v _ _ hr3 (iEq_iff.1 (bnot_f h_7)) () trivial) (fun r5 hr5 => (DG.ret trivial)) (fun r6 hr6 => (DG.bnd (law37_awake.val ) (fun hr7 => (DG.ret trivial)))))))))))))))))
end law37_SpreadCounts
namespace ref13_Key
def v (a0 : ByteArray) (a1 : ByteArray) (a2 : ByteArray) : ByteArray := (sCat (sCat (sCat (sCat a0 (bs [47])) a1) (bs [47])) a2)
theorem val (a0 : ByteArray) (a1 : ByteArray) (a2 : ByteArray) (ha0 : Sz 140737488351232 a0) (ha1 : Sz 140737488351232 a1) (ha2 : Sz 140737488351232 a2) : DV (fun k => (f k a0 a1 a2).eval) (v a0 a1 a2) (Sz 422212465053698) := (DG.tt (sOk_sz ha0 (@Nat.le_of_ble_eq_true _ 1 rfl) (by decide)) (DG.tt (sOk_sz (sz_cat ha0 (@Nat.le_of_ble_eq_true _ 1 rfl)) ha1 (by decide)) (DG.tt (sOk_sz (sz_cat (sz_cat ha0 (@Nat.le_of_ble_eq_true _ 1 rfl)) ha1) (@Nat.le_of_ble_eq_true _ 1 rfl) (by decide)) (DG.tt (sOk_sz (sz_cat (sz_cat (sz_cat ha0 (@Nat.le_of_ble_eq_true _ 1 rfl)) ha1) (@Nat.le_of_ble_eq_true _ 1 rfl)) ha2 (by decide)) (DG.ret (sz_cat (sz_cat (sz_cat (sz_cat ha0 (@Nat.le_of_ble_eq_true _ 1 rfl)) ha1) (@Nat.le_of_ble_eq_true _ 1 rfl)) ha2))))))
end ref13_Key
namespace ref13_KeyOf
def v (a0 : Row) : ByteArray := (let r0 := (ref13_Key.v (rStr a0 0) (rStr a0 1) (rStr a0 2)); r0)
theorem val (a0 : Row) (ha0 : Br a0) : DV (fun k => (f k a0).eval) (v a0) (Sz 422212465053698) := (DG.bnd (ref13_Key.val _ _ _ (Br.str ha0 _) (Br.str ha0 _) (Br.str ha0 _)) (fun hr0 => (DG.ret hr0)))
end ref13_KeyOf
namespace ref37_others
def p4 (c0 : ByteArray) (i : Int) (q : Row) (x : Rows) : (Rows) ⊕ (Rows) := (let r0 := (ref13_KeyOf.v (et 36 q)); (bif (bNot (sEq r0 c0)) then (.inl (rCat x [rJ [et 36 q, [.str (rStr q 13), .int .i64 (rInt q 14), .int .i64 (rInt q 15), .int .i64 (rInt q 16), .slice 154 (rSl q 17) .open, .slice 76 (rSl q 18) .open, .slice 156 (rSl q 19) .open, .slice 158 (rSl q 20) .open, .slice 29 (rSl q 21) .open, .slice 160 (rSl q 22) .open, .int .i64 (rInt q 23), .bool (rBool q 24), .int .i64 (rInt q 25), .int .i64 (rInt q 26), .int .i64 (rInt q 27), .slice 162 (rSl q 28) .open, .int .i64 (rInt q 29), .str (rStr q 30), .str (rStr q 31)]]])) else (.inl x)))
def z4 (x : Rows) : Rows := x
def w4 (c0 : ByteArray) (c4 : Row) (x0 : Rows) : Rows := walk (p4 c0) z4 (rSl c4 1) 0 x0
def v (a0 : Row) (a1 : ByteArray) : Row := (let r0 := (ref37_others.w4 a1 (et 26 a0) []); [.slice 61 (rSl a0 0) .open, .slice 48 r0 .open, .slice 147 (rSl a0 2) .open, .int .i64 (rInt a0 3)])
theorem w4_v (c0 : ByteArray) (c1 : Rows) (c2 : Rows) (c3 : Int) (c4 : Row) (c5 : Row) (hc4 : Br c4) (hn : rLen (rSl c4 1) ≤ 1048576) (x0 : Rows) (h0 : Grow 0 x0) : DV (fun k => iter (s4 k c0 c1 c2 c3 c4 c5) k ((fun (x : Rows) (i : Int) => (i, x)) x0 0)) (w4 c0 c4 x0) Brs := by
  refine DV.walk (fun (x : Rows) (i : Int) => (i, x)) (Br.sl hc4 _).1 (p4 c0) z4 (fun (i : Int) (x : Rows) => Grow i x) Brs (fun i x hp hi hI => ?_) (fun i x hie hi hI => ?_) x0 h0
  · have hlt := lt_of (Br.sl hc4 _).1 hi
    have hle := Int.le_of_lt hlt
    have hin := iIn_lt hp hi
    exact DG.tt hi (DG.tt (iIn_lt hp hi) (DG.bnd (ref13_KeyOf.val _ (Br.eta (Brs.at (Br.sl hc4 _) _) _)) (fun hr0 => (DG.test (fun h_2 => (DG.tt (iIn_lt hp hi) (DG.tt (Grow.ok hI (by have h8 := of_decide_eq_true hi; omega) (by decide)) (DG.inl rfl (Grow.push hI (br_rJ (all_cons (Br.eta (Brs.at (Br.sl hc4 _) _) _) (all_cons (br_cons (brc_str (Br.str (Brs.at (Br.sl hc4 _) _) _)) (br_cons brc_int (br_cons brc_int (br_cons brc_int (br_cons (brc_slice (Br.sl (Brs.at (Br.sl hc4 _) _) _)) (br_cons (brc_slice (Br.sl (Brs.at (Br.sl hc4 _) _) _)) (br_cons (brc_slice (Br.sl (Brs.at (Br.sl hc4 _) _) _)) (br_cons (brc_slice (Br.sl (Brs.at (Br.sl hc4 _) _) _)) (br_cons (brc_slice (Br.sl (Brs.at (Br.sl hc4 _) _) _)) (br_cons (brc_slice (Br.sl (Brs.at (Br.sl hc4 _) _) _)) (br_cons brc_int (br_cons brc_bool (br_cons brc_int (br_cons brc_int (br_cons brc_int (br_cons (brc_slice (Br.sl (Brs.at (Br.sl hc4 _) _) _)) (br_cons brc_int (br_cons (brc_str (Br.str (Brs.at (Br.sl hc4 _) _) _)) (br_cons (brc_str (Br.str (Brs.at (Br.sl hc4 _) _) _)) br_nil))))))))))))))))))) all_nil)))))))) (fun h_2 => (DG.inl rfl (Grow.same hI)))))))
  · have hle := eq_le (Br.sl hc4 _).1 hie
    exact DG.ff hi (DG.ex rfl (Grow.done hI hle))
theorem val (a0 : Row) (a1 : ByteArray) (ha0 : Br a0) (hn : rLen (rSl a0 1) ≤ 1048576) : DV (fun k => (f k a0 a1).eval) (v a0 a1) Br := (DG.bnd (ref37_others.w4_v _ _ _ _ _ _ (Br.eta ha0 _) (le_et1 hn) _ Grow.nil) (fun hr0 => (DG.ret (br_cons (brc_slice (Br.sl ha0 _)) (br_cons (brc_slice hr0) (br_cons (brc_slice (Br.sl ha0 _)) (br_cons brc_int br_nil)))))))
end ref37_others
theorem others_len (k : ByteArray) : ∀ (es : Rows) (i : Int) (x : Rows), rLen (walk (ref37_others.p4 k) ref37_others.z4 es i x) ≤ rLen x + rLen es
  | [], i, x => by show rLen x ≤ rLen x + 0; omega
  | q :: es, i, x => by
    simp only [walk]
    have hl : rLen (q :: es) = rLen es + 1 := by unfold rLen; simp
    have hp : ∃ y, ref37_others.p4 k i q x = .inl y ∧ rLen y ≤ rLen x + 1 := by
      unfold ref37_others.p4
      dsimp only
      cases bNot (sEq (ref13_KeyOf.v (et 36 q)) k) with
      | true => exact ⟨_, rfl, by unfold rLen rCat; simp⟩
      | false => exact ⟨_, rfl, by omega⟩
    obtain ⟨y, hy, hle⟩ := hp
    rw [hy]
    have := others_len k es (i + 1) y
    show rLen (walk (ref37_others.p4 k) ref37_others.z4 es (i + 1) y) ≤ _
    omega
theorem others_sv {a0 : Row} (k : ByteArray) (h : Sv a0) : Sv (ref37_others.v a0 k) := by
  refine ⟨h.1, ?_⟩
  have h2 := others_len k (rSl (et 26 a0) 1) 0 []
  have h1 := le_et1 h.2
  have e : rLen ([] : Rows) = 0 := rfl
  show rLen (walk (ref37_others.p4 k) ref37_others.z4 (rSl (et 26 a0) 1) 0 []) ≤ 1048576
  omega
namespace ref37_of
def p3 (c1 : ByteArray) (i : Int) (q : Row) (x : Int × Int × Bool) : (Int × Int × Bool) ⊕ (Int × Int × Bool) := (bif (bIte (iEq i 0) true (iLt (rInt q 1) x.2.1)) then (bif (sEq (rStr q 0) c1) then (.inl ((rInt q 1), (rInt q 1), true)) else (.inl (x.1, (rInt q 1), x.2.2))) else (bif (sEq (rStr q 0) c1) then (.inl ((rInt q 1), x.2.1, true)) else (.inl (x.1, x.2.1, x.2.2))))
def z3 (x : Int × Int × Bool) : Int × Int × Bool := (x.1, x.2.1, x.2.2)
def w3 (c0 : Rows) (c1 : ByteArray) (x0 : Int × Int × Bool) : Int × Int × Bool := walk (p3 c1) z3 c0 0 x0
def v (a0 : Rows) (a1 : ByteArray) : (Int × Int × Bool) := (let r0 := (ref37_of.w3 a0 a1 (0, 0, false)); (r0.1, r0.2.1, r0.2.2))
theorem w3_v (c0 : Rows) (c1 : ByteArray) (hc0 : Brs c0) (x0 : Int × Int × Bool) (h0 : True ∧ True ∧ True) : DV (fun k => iter (s3 k c0 c1) k ((fun (x : Int × Int × Bool) (i : Int) => (x.1, x.2.1, x.2.2, i)) x0 0)) (w3 c0 c1 x0) (Pp Pt (Pp Pt Pt)) := by
  refine DV.walk (fun (x : Int × Int × Bool) (i : Int) => (x.1, x.2.1, x.2.2, i)) hc0.1 (p3 c1) z3 (fun (i : Int) (x : Int × Int × Bool) => True ∧ True ∧ True) (Pp Pt (Pp Pt Pt)) (fun i x hp hi hI => ?_) (fun i x hie hi hI => ?_) x0 h0
  · have hlt := lt_of hc0.1 hi
    have hle := Int.le_of_lt hlt
    have hin := iIn_lt hp hi
    exact DG.tt hi (DG.tt (bimp_ (iIn_lt hp hi)) (DG.test (fun h_1 => (DG.tt (iIn_lt hp hi) (DG.tt (iIn_lt hp hi) (DG.test (fun h_2 => (DG.tt (iIn_lt hp hi) (DG.inl rfl ⟨trivial, ⟨trivial, trivial⟩⟩))) (fun h_2 => (DG.inl rfl ⟨trivial, ⟨trivial, trivial⟩⟩)))))) (fun h_1 => (DG.tt (iIn_lt hp hi) (DG.test (fun h_3 => (DG.tt (iIn_lt hp hi) (DG.inl rfl ⟨trivial, ⟨trivial, trivial⟩⟩))) (fun h_3 => (DG.inl rfl ⟨trivial, ⟨trivial, trivial⟩⟩)))))))
  · have hle := eq_le hc0.1 hie
    exact DG.ff hi (DG.ex rfl ⟨trivial, ⟨trivial, trivial⟩⟩)
theorem val (a0 : Rows) (a1 : ByteArray) (ha0 : Brs a0) : DV (fun k => (f k a0 a1).eval) (v a0 a1) (Pp Pt (Pp Pt Pt)) := (DG.bnd (ref37_of.w3_v _ _ ha0 _ ⟨trivial, ⟨trivial, trivial⟩⟩) (fun hr0 => (DG.ret ⟨trivial, ⟨trivial, trivial⟩⟩)))
end ref37_of
namespace ref01_Clamp
def v (a0 : Int) (a1 : Int) (a2 : Int) : Int := (iMin (iMax a0 a1) a2)
theorem val (a0 : Int) (a1 : Int) (a2 : Int) : DV (fun k => (f k a0 a1 a2).eval) (v a0 a1 a2) Pt := (DG.ret trivial)
end ref01_Clamp
namespace ref37_Fits
def p3 (c0 : Row) (c1 : Row) (c2 : Row) (i : Int) (q : Row) (x : Unit) : (Unit) ⊕ (Bool ⊕ Unit) := (bif (bNot (rBool q 3)) then (.inl ()) else (let r0 := (ref36_Domain.v (et 61 c1) (rStr q 1)); (let r1 := (ref37_Counts.v (et 26 c2) (rStr c0 1) (et 29 q)); (let r2 := (ref37_of.v r1 r0.1); (let r3 := (ref03_Matches.v (rSl q 2) (rSl c0 9)); (bif r3 then (let r4 := bif (bNot (bIte (bNot r0.2) true (bNot r2.2.2))) then (ref01_Clamp.v (rInt q 0) 0 1000000000000000) else default; (bif (bIte (bIte (bNot r0.2) true (bNot r2.2.2)) true (iLt (iAdd .i64 r2.2.1 r4) (iAdd .i64 r2.1 1))) then (.inr (.inl false)) else (.inl ()))) else (let r5 := bif (bNot (bIte (bNot r0.2) true (bNot r2.2.2))) then (ref01_Clamp.v (rInt q 0) 0 1000000000000000) else default; (bif (bIte (bIte (bNot r0.2) true (bNot r2.2.2)) true (iLt (iAdd .i64 r2.2.1 r5) r2.1)) then (.inr (.inl false)) else (.inl ())))))))))
def z3 (x : Unit) : Bool ⊕ Unit := (.inr ())
def w3 (c0 : Row) (c1 : Row) (c2 : Row) : Bool ⊕ Unit := walk (p3 c0 c1 c2) z3 (rSl c0 21) 0 ()
def v (a0 : Row) (a1 : Row) (a2 : Row) : Bool := (let r0 := (ref13_KeyOf.v (et 36 a1)); (let r1 := (ref37_others.v (et 26 a0) r0); (Sum.elim (fun r2 => r2) (fun r3 => true) (ref37_Fits.w3 (et 48 a1) (et 61 a2) (et 26 r1)))))
theorem w3_v (c0 : Row) (c1 : Row) (c2 : Row) (hc0 : Br c0) (hc1 : Br c1) (hc2 : Br c2) (hn : Sv c2) (x0 : Unit) (h0 : True) : DV (fun k => iter (s3 k c0 c1 c2) k ((fun (x : Unit) (i : Int) => i) x0 0)) (w3 c0 c1 c2) (Ps Pt Pt) := by
  refine DV.walk (fun (x : Unit) (i : Int) => i) (Br.sl hc0 _).1 (p3 c0 c1 c2) z3 (fun (i : Int) (x : Unit) => True) (Ps Pt Pt) (fun i x hp hi hI => ?_) (fun i x hie hi hI => ?_) x0 h0
  · have hlt := lt_of (Br.sl hc0 _).1 hi
    have hle := Int.le_of_lt hlt
    have hin := iIn_lt hp hi
    exact DG.tt hi (DG.tt (iIn_lt hp hi) (DG.test (fun h_1 => (DG.inl rfl trivial)) (fun h_1 => (DG.bnd (ref36_Domain.val _ _ (Br.eta hc1 _)) (fun hr0 => (DG.bnd (ref37_Counts.val _ _ _ (Br.eta hc2 _) (Br.str hc0 _) (Br.eta (Brs.at (Br.sl hc0 _) _) _) (sv_et hn).1) (fun hr1 => (DG.bnd (ref37_of.val _ _ hr1) (fun hr2 => (DG.bnd (ref03_Matches.val _ _ (Br.sl (Brs.at (Br.sl hc0 _) _) _) (Br.sl hc0 _)) (fun hr3 => (DG.test (fun h_6 => (DG.opt (fun h_7 => (ref01_Clamp.val _ _ _)) (fun _ => trivial) (fun hr4 => (DG.test (fun h_8 => (DG.inr rfl trivial)) (fun h_8 => (DG.inl rfl trivial)))))) (fun h_6 => (DG.opt (fun h_9 => (ref01_Clamp.val _ _ _)) (fun _ => trivial) (fun hr5 => (DG.test (fun h_10 => (DG.inr rfl trivial)) (fun h_10 => (DG.inl rfl trivial))))))))))))))))))
  · have hle := eq_le (Br.sl hc0 _).1 hie
    exact DG.ff hi (DG.ex rfl trivial)
theorem val (a0 : Row) (a1 : Row) (a2 : Row) (ha0 : Br a0) (ha1 : Br a1) (ha2 : Br a2) (hn : Sv a0) : DV (fun k => (f k a0 a1 a2).eval) (v a0 a1 a2) Pt := (DG.bnd (ref13_KeyOf.val _ (Br.eta ha1 _)) (fun hr0 => (DG.bnd (ref37_others.val _ _ (Br.eta ha0 _) (le_et1 hn.2)) (fun hr1 => (DG.cas (ref37_Fits.w3_v _ _ _ (Br.eta ha1 _) (Br.eta ha2 _) (Br.eta hr1 _) (sv_et (others_sv _ (sv_et hn))) () trivial) (fun r2 hr2 => (DG.ret trivial)) (fun r3 hr3 => (DG.ret trivial)))))))
end ref37_Fits
namespace ref37_Score
def p4 (c0 : Row) (c1 : Row) (c2 : Row) (i : Int) (q : Row) (x : Int) : (Int) ⊕ (Int) := (bif (rBool q 3) then (.inl x) else (let r0 := (ref36_Domain.v (et 61 c1) (rStr q 1)); (bif r0.2 then (let r1 := (ref37_Counts.v (et 26 c2) (rStr c0 1) (et 29 q)); (let r2 := (ref37_of.v r1 r0.1); (.inl (iAdd .i64 x r2.1)))) else (.inl (iAdd .i64 x 40)))))
def z4 (x : Int) : Int := x
def w4 (c0 : Row) (c1 : Row) (c2 : Row) (x0 : Int) : Int := walk (p4 c0 c1 c2) z4 (rSl c0 21) 0 x0
def v (a0 : Row) (a1 : Row) (a2 : Row) : Int := (let r0 := (ref13_KeyOf.v (et 36 a1)); (let r1 := (ref37_others.v (et 26 a0) r0); (let r2 := (ref37_Score.w4 (et 48 a1) (et 61 a2) (et 26 r1) 0); r2)))
theorem w4_v (c0 : Row) (c1 : Row) (c2 : Row) (hc0 : Br c0) (hc1 : Br c1) (hc2 : Br c2) (hn : Sv c2) (x0 : Int) (h0 : True) : DV (fun k => iter (s4 k c0 c1 c2) k ((fun (x : Int) (i : Int) => (x, i)) x0 0)) (w4 c0 c1 c2 x0) Pt := by
  refine DV.walk (fun (x : Int) (i : Int) => (x, i)) (Br.sl hc0 _).1 (p4 c0 c1 c2) z4 (fun (i : Int) (x : Int) => True) Pt (fun i x hp hi hI => ?_) (fun i x hie hi hI => ?_) x0 h0
  · have hlt := lt_of (Br.sl hc0 _).1 hi
    have hle := Int.le_of_lt hlt
    have hin := iIn_lt hp hi
    exact DG.tt hi (DG.tt (iIn_lt hp hi) (DG.test (fun h_1 => (DG.inl rfl trivial)) (fun h_1 => (DG.bnd (ref36_Domain.val _ _ (Br.eta hc1 _)) (fun hr0 => (DG.test (fun h_3 => (DG.bnd (ref37_Counts.val _ _ _ (Br.eta hc2 _) (Br.str hc0 _) (Br.eta (Brs.at (Br.sl hc0 _) _) _) (sv_et hn).1) (fun hr1 => (DG.bnd (ref37_of.val _ _ hr1) (fun hr2 => (DG.inl rfl trivial)))))) (fun h_3 => (DG.inl rfl trivial))))))))
  · have hle := eq_le (Br.sl hc0 _).1 hie
    exact DG.ff hi (DG.ex rfl trivial)
theorem val (a0 : Row) (a1 : Row) (a2 : Row) (ha0 : Br a0) (ha1 : Br a1) (ha2 : Br a2) (hn : Sv a0) : DV (fun k => (f k a0 a1 a2).eval) (v a0 a1 a2) Pt := (DG.bnd (ref13_KeyOf.val _ (Br.eta ha1 _)) (fun hr0 => (DG.bnd (ref37_others.val _ _ (Br.eta ha0 _) (le_et1 hn.2)) (fun hr1 => (DG.bnd (ref37_Score.w4_v _ _ _ (Br.eta ha1 _) (Br.eta ha2 _) (Br.eta hr1 _) (sv_et (others_sv _ (sv_et hn))) _ trivial) (fun hr2 => (DG.ret trivial)))))))
end ref37_Score
namespace law37_SpreadFits
def v (a0 : Row) (a1 : Row) (a2 : Row) : Bool := (let r0 := (law37_heavy.v (et 26 a0) (et 48 a1)); (bif (bIte r0 true (iLt 30 (rLen (rSl a2 9)))) then (let r1 := (law37_awake.v ); r1) else (let r2 := (spread_Fits.v (et 26 a0) (et 48 a1) (et 61 a2)); (let r3 := (ref37_Fits.v (et 26 a0) (et 48 a1) (et 61 a2)); (let r4 := bif (bEq r2 r3) then (spread_Score.v (et 26 a0) (et 48 a1) (et 61 a2)) else default; (let r5 := bif (bEq r2 r3) then (ref37_Score.v (et 26 a0) (et 48 a1) (et 61 a2)) else default; (let r6 := bif (bIte (bEq r2 r3) (iEq r4 r5) false) then (law37_awake.v ) else default; (bIte (bIte (bEq r2 r3) (iEq r4 r5) false) r6 false))))))))
theorem val (a0 : Row) (a1 : Row) (a2 : Row) (ha0 : Br a0) (ha1 : Br a1) (ha2 : Br a2) : DV (fun k => (f k a0 a1 a2).eval) (v a0 a1 a2) Pt := (DG.bnd (law37_heavy.val _ _ (Br.eta ha0 _) (Br.eta ha1 _)) (fun hr0 => (DG.test (fun h_2 => (DG.bnd (law37_awake.val ) (fun hr1 => (DG.ret trivial)))) (fun h_2 => (DG.bnd (spread_Fits.val _ _ _ (Br.eta ha0 _) (Br.eta ha1 _) (Br.eta ha2 _) (heavy_small (bite_ff h_2))) (fun hr2 => (DG.bnd (ref37_Fits.val _ _ _ (Br.eta ha0 _) (Br.eta ha1 _) (Br.eta ha2 _) (heavy_small (bite_ff h_2))) (fun hr3 => (DG.opt (fun h_6 => (spread_Score.val _ _ _ (Br.eta ha0 _) (Br.eta ha1 _) (Br.eta ha2 _) (heavy_small (bite_ff h_2)))) (fun _ => trivial) (fun hr4 => (DG.opt (fun h_7 => (ref37_Score.val _ _ _ (Br.eta ha0 _) (Br.eta ha1 _) (Br.eta ha2 _) (heavy_small (bite_ff h_2)))) (fun _ => trivial) (fun hr5 => (DG.opt (fun h_8 => (law37_awake.val )) (fun _ => trivial) (fun hr6 => (DG.ret trivial)))))))))))))))
end law37_SpreadFits
namespace ref01_text
def dg (n : Int) : ByteArray := sRows [[.int .u8 (iCv .u8 (iAdd .i64 (48) (iRem n (10))))]]
def v (a0 : Int) : ByteArray := bif iLe (10) a0 then sCat (dg (iQuo .i64 a0 (10))) (dg a0) else dg a0
theorem sz1 (n : Int) : (dg n).size ≤ 1 := sz_rows _ (Nat.le_refl 1)
theorem quo10 {n : Int} (h : 0 ≤ n ∧ n < 100) : iQuo .i64 n (10) = n / 10 := by
  unfold iQuo
  rw [Int.tdiv_eq_ediv_of_nonneg h.1]
  exact IntWalk.i64_in _ (by omega)
theorem loop (a0 : Int) (h : 0 ≤ a0 ∧ a0 < 100) : D (fun k => iter (s2 k) k (a0, dg a0)) (fun r => r = v a0 ∧ r.size ≤ 2) := by
  refine D.loop (fun x => (x = (a0, dg a0)) ∨ (iLe 10 x.1 = false ∧ x.2 = v a0 ∧ x.2.size ≤ 2)) (fun x => x.1.toNat) _ (fun x hx => ?_) _ (Or.inl rfl)
  by_cases h10 : iLe 10 x.1 = true
  · have h10' : (10 : Int) ≤ x.1 := of_decide_eq_true h10
    rcases hx with rfl | ⟨he, _⟩
    · have h0 : v a0 = sCat (dg (iQuo .i64 a0 (10))) (dg a0) := by
        unfold v
        have h10 : iLe 10 a0 = true := h10
        rw [h10]; rfl
      have hs : (sCat (dg (iQuo .i64 a0 (10))) (dg a0)).size ≤ 2 := sz_cat (sz1 _) (sz1 _)
      have hq := quo10 h
      have h10' : (10 : Int) ≤ a0 := h10'
      refine D.tt h10 (D.tt rfl (D.tt rfl (D.tt (sOk_sz (sz1 _) (sz1 _) (by decide)) (D.ret ⟨Or.inr ⟨?_, h0.symm, hs⟩, ?_⟩))))
      · show iLe 10 (iQuo .i64 a0 (10)) = false
        rw [hq]; exact decide_eq_false (by omega)
      · show (iQuo .i64 a0 (10)).toNat < a0.toNat
        rw [hq]; omega
    · rw [he] at h10; cases h10
  · have h10 : iLe 10 x.1 = false := by
      cases hb : iLe 10 x.1 with
      | true => exact absurd hb h10
      | false => rfl
    refine D.test (fun hc => ?_) (fun _ => D.ret ?_)
    · rw [h10] at hc; cases hc
    · rcases hx with rfl | ⟨_, h2, h3⟩
      · have h10 : iLe 10 a0 = false := h10
        have h0 : v a0 = dg a0 := by
          unfold v
          rw [h10]; rfl
        exact ⟨h0.symm, Nat.le_trans (sz1 a0) (by decide)⟩
      · exact ⟨h2, h3⟩
theorem val (a0 : Int) (h : 0 ≤ a0 ∧ a0 < 100) : DV (fun k => (f k a0).eval) (v a0) (Sz 2) :=
  DG.tt rfl (DG.bnd (w := v a0) (Q := Sz 2) (loop a0 h) (fun hr => DG.ret hr))
end ref01_text
namespace ref01_Decimal
def v (a0 : Int) : ByteArray := ref01_text.v a0
theorem val (a0 : Int) (h : 0 ≤ a0 ∧ a0 < 100) : DV (fun k => (f k a0).eval) (v a0) (Sz 2) :=
  DG.tt (decide_eq_true h.1) (DG.bnd (ref01_text.val a0 h) (fun hr => DG.ret hr))
end ref01_Decimal
namespace law37_distinct
def p5 (c0 : Rows) (c1 : Int) (i : Int) (q : Row) (x : Unit) : (Unit) ⊕ (Bool ⊕ Unit) := (bif (sEq (rStr (rAt c0 c1) 2) (rStr q 2)) then (.inr (.inl false)) else (.inl ()))
def z5 (x : Unit) : Bool ⊕ Unit := (.inr ())
def w5 (c0 : Rows) (c1 : Int) : Bool ⊕ Unit := walk (p5 c0 c1) z5 (c0.take c1.toNat) 0 ()
def p2 (c0 : Rows) (i : Int) (q : Row) (x : Unit) : (Unit) ⊕ (Bool ⊕ Unit) := (Sum.elim (fun r0 => (.inr (.inl r0))) (fun r1 => (.inl ())) (law37_distinct.w5 c0 i))
def z2 (x : Unit) : Bool ⊕ Unit := (.inr ())
def w2 (c0 : Rows) : Bool ⊕ Unit := walk (p2 c0) z2 c0 0 ()
def v (a0 : Rows) : Bool := (Sum.elim (fun r0 => r0) (fun r1 => true) (law37_distinct.w2 a0))
theorem w5_v (c0 : Rows) (c1 : Int) (hc0 : Brs c0) (hn : 0 ≤ c1 ∧ c1 < rLen c0) : DV (fun k => iter (s5 k c0 c1) k ((fun (x : Unit) (i : Int) => i) () 0)) (w5 c0 c1) Pt := by
  have hl : rLen (c0.take c1.toNat) = c1 := by
    have h := hn.2
    unfold rLen at h ⊢
    rw [List.length_take]; omega
  have hb : Brs (c0.take c1.toNat) := brs_take hc0 c1
  have hat : ∀ i, 0 ≤ i → iLt i c1 = true → rAt (c0.take c1.toNat) i = rAt c0 i := fun i h0 h1 => by
    have h1 := of_decide_eq_true h1
    unfold rAt
    rw [List.getD_eq_getElem?_getD, List.getD_eq_getElem?_getD, List.getElem?_take, if_pos (by omega)]
  refine DV.walk (fun (x : Unit) (i : Int) => i) hb.1 (p5 c0 c1) z5 (fun (i : Int) (x : Unit) => True) Pt (fun i x hp hi hI => ?_) (fun i x hie hi hI => ?_) () trivial
  · rw [hl] at hi
    rw [hat i hp hi]
    have hi' := of_decide_eq_true hi
    exact DG.tt hi (DG.tt (iIn_lt hn.1 (decide_eq_true hn.2)) (DG.tt (decide_eq_true ⟨hp, by omega⟩) (DG.test (fun h_1 => (DG.inr rfl trivial)) (fun h_1 => (DG.inl rfl trivial)))))
  · rw [hl] at hi
    exact DG.ff hi (DG.ex rfl trivial)
theorem w2_v (c0 : Rows) (hc0 : Brs c0) : DV (fun k => iter (s2 k c0) k ((fun (x : Unit) (i : Int) => i) () 0)) (w2 c0) Pt := by
  refine DV.walk (fun (x : Unit) (i : Int) => i) hc0.1 (p2 c0) z2 (fun (i : Int) (x : Unit) => True) Pt (fun i x hp hi hI => ?_) (fun i x hie hi hI => ?_) () trivial
  · exact DG.tt hi (DG.cas (law37_distinct.w5_v _ _ hc0 ⟨hp, of_decide_eq_true hi⟩) (fun r0 hr0 => (DG.inr rfl trivial)) (fun r1 hr1 => (DG.inl rfl trivial)))
  · exact DG.ff hi (DG.ex rfl trivial)
theorem val (a0 : Rows) (ha0 : Brs a0) : DV (fun k => (f k a0).eval) (v a0) Pt := (DG.cas (law37_distinct.w2_v _ ha0) (fun r0 hr0 => (DG.ret trivial)) (fun r1 hr1 => (DG.ret trivial)))
end law37_distinct
namespace law37_gap
def p3 (i : Int) (q : Row) (x : Int × Int) : (Int × Int) ⊕ (Int × Int) := (bif (bIte (iEq i 0) true (iLt x.1 (rInt q 1))) then (bif (bIte (iEq i 0) true (iLt (rInt q 1) x.2)) then (.inl ((rInt q 1), (rInt q 1))) else (.inl ((rInt q 1), x.2))) else (bif (bIte (iEq i 0) true (iLt (rInt q 1) x.2)) then (.inl (x.1, (rInt q 1))) else (.inl (x.1, x.2))))
def z3 (x : Int × Int) : Int × Int := (x.1, x.2)
def w3 (c0 : Rows) (x0 : Int × Int) : Int × Int := walk p3 z3 c0 0 x0
def v (a0 : Rows) : Int := (let r0 := (law37_gap.w3 a0 (0, 0)); (iSub .i64 r0.1 r0.2))
theorem w3_v (c0 : Rows) (hc0 : Brs c0) (x0 : Int × Int) (h0 : True ∧ True) : DV (fun k => iter (s3 k c0) k ((fun (x : Int × Int) (i : Int) => (x.1, x.2, i)) x0 0)) (w3 c0 x0) (Pp Pt Pt) := by
  refine DV.walk (fun (x : Int × Int) (i : Int) => (x.1, x.2, i)) hc0.1 p3 z3 (fun (i : Int) (x : Int × Int) => True ∧ True) (Pp Pt Pt) (fun i x hp hi hI => ?_) (fun i x hie hi hI => ?_) x0 h0
  · have hlt := lt_of hc0.1 hi
    have hle := Int.le_of_lt hlt
    have hin := iIn_lt hp hi
    exact DG.tt hi (DG.tt (bimp_ (iIn_lt hp hi)) (DG.test (fun h_1 => (DG.tt (iIn_lt hp hi) (DG.tt (bimp_ (iIn_lt hp hi)) (DG.test (fun h_2 => (DG.tt (iIn_lt hp hi) (DG.inl rfl ⟨trivial, trivial⟩))) (fun h_2 => (DG.inl rfl ⟨trivial, trivial⟩)))))) (fun h_1 => (DG.tt (bimp_ (iIn_lt hp hi)) (DG.test (fun h_3 => (DG.tt (iIn_lt hp hi) (DG.inl rfl ⟨trivial, trivial⟩))) (fun h_3 => (DG.inl rfl ⟨trivial, trivial⟩)))))))
  · have hle := eq_le hc0.1 hie
    exact DG.ff hi (DG.ex rfl ⟨trivial, trivial⟩)
theorem val (a0 : Rows) (ha0 : Brs a0) : DV (fun k => (f k a0).eval) (v a0) Pt := (DG.bnd (law37_gap.w3_v _ ha0 _ ⟨trivial, trivial⟩) (fun hr0 => (DG.ret trivial)))
end law37_gap
namespace law37_SpreadSkew
def up (x : Row) (nm node : ByteArray) : Row := [.str (rStr x 0), .str (rStr x 1), .str nm, .int .i64 (rInt x 3), .int .i64 (rInt x 4), .int .i64 (rInt x 5), .int .i64 (rInt x 6), .bool (rBool x 7), .int .i64 (rInt x 8), .slice 93 (rSl x 9) .open, .slice 149 (rSl x 10) .open, .slice 9 (rSl x 11) .open, .slice 151 (rSl x 12) .open, .str node, .int .i64 (rInt x 14), .int .i64 (rInt x 15), .int .i64 (rInt x 16), .slice 154 (rSl x 17) .open, .slice 76 (rSl x 18) .open, .slice 156 (rSl x 19) .open, .slice 158 (rSl x 20) .open, .slice 29 (rSl x 21) .open, .slice 160 (rSl x 22) .open, .int .i64 (rInt x 23), .bool (rBool x 24), .int .i64 (rInt x 25), .int .i64 (rInt x 26), .int .i64 (rInt x 27), .slice 162 (rSl x 28) .open, .int .i64 (rInt x 29), .str (rStr x 30), .str (rStr x 31)]
def vw (x : Row) (ps : Rows) : Row := [.slice 61 (rSl x 0) .open, .slice 48 ps .open, .slice 147 (rSl x 2) .open, .int .i64 (rInt x 3)]
def v0 (ns : Rows) : Row := [.slice 61 ns .open, .slice 48 [] .open, .slice 147 [] .open, .int .i64 0]
def rl (a1 : Row) : Row := [.int .i64 (rInt a1 0), .str (rStr a1 1), .slice 76 (rSl a1 2) .open, .bool true]
def st (x ru : Row) : Row := [.str (rStr x 0), .str (rStr x 1), .str (rStr x 2), .int .i64 (rInt x 3), .int .i64 (rInt x 4), .int .i64 (rInt x 5), .int .i64 (rInt x 6), .bool (rBool x 7), .int .i64 (rInt x 8), .slice 93 (rSl x 9) .open, .slice 149 (rSl x 10) .open, .slice 9 (rSl x 11) .open, .slice 151 (rSl x 12) .open, .str (rStr x 13), .int .i64 (rInt x 14), .int .i64 (rInt x 15), .int .i64 (rInt x 16), .slice 154 (rSl x 17) .open, .slice 76 (rSl x 18) .open, .slice 156 (rSl x 19) .open, .slice 158 (rSl x 20) .open, .slice 29 [ru] .open, .slice 160 (rSl x 22) .open, .int .i64 (rInt x 23), .bool (rBool x 24), .int .i64 (rInt x 25), .int .i64 (rInt x 26), .int .i64 (rInt x 27), .slice 162 (rSl x 28) .open, .int .i64 (rInt x 29), .str (rStr x 30), .str (rStr x 31)]
def p10 (c0 : Rows) (c2 : Row) (i : Int) (q : Row) (x : Row × Row) : (Row × Row) ⊕ (Bool ⊕ Unit) := (let r0 := (ref01_Decimal.v i); (let r1 := (spread_Fits.v (et 26 x.1) (up x.2 (sCat (bs [112]) r0) (rStr x.2 13)) (et 61 (rAt c0 (iRem (iCv .i64 (rInt q 0)) (rLen c0))))); (bif (bNot r1) then (.inl ((et 26 x.1), (up x.2 (sCat (bs [112]) r0) (rStr x.2 13)))) else (let r2 := (law37_distinct.v c0); (bif (bNot r2) then (.inl ((vw x.1 (rCat (rCat [] (rSl x.1 1)) [(up x.2 (sCat (bs [112]) r0) (rStr (rAt c0 (iRem (iCv .i64 (rInt q 0)) (rLen c0))) 2))])), (up x.2 (sCat (bs [112]) r0) (rStr x.2 13)))) else (let r3 := (spread_Counts.v (vw x.1 (rCat (rCat [] (rSl x.1 1)) [(up x.2 (sCat (bs [112]) r0) (rStr (rAt c0 (iRem (iCv .i64 (rInt q 0)) (rLen c0))) 2))])) (bs [110, 115]) (et 29 c2)); (let r4 := (law37_gap.v r3); (let r5 := (ref01_Clamp.v (rInt c2 0) 0 1000000000000000); (bif (iLt r5 r4) then (.inr (.inl false)) else (.inl ((vw x.1 (rCat (rCat [] (rSl x.1 1)) [(up x.2 (sCat (bs [112]) r0) (rStr (rAt c0 (iRem (iCv .i64 (rInt q 0)) (rLen c0))) 2))])), (up x.2 (sCat (bs [112]) r0) (rStr x.2 13)))))))))))))
def z10 (x : Row × Row) : Bool ⊕ Unit := (.inr ())
def w10 (c0 : Rows) (c1 : Rows) (c2 : Row) (x0 : Row × Row) : Bool ⊕ Unit := walk (p10 c0 c2) z10 c1 0 x0
def v (a0 : Rows) (a1 : Row) (a2 : Rows) : Bool := (let r0 := bif (bNot (bIte (bIte (iLt 8 (rLen a0)) true (iLt 16 (rLen a2))) true (iEq (rLen a0) 0))) then (law37_wide.v (rSl a1 2)) else default; (bif (bIte (bIte (bIte (iLt 8 (rLen a0)) true (iLt 16 (rLen a2))) true (iEq (rLen a0) 0)) true r0) then (let r1 := (law37_awake.v ); r1) else (let r2 := (law37_member.v ByteArray.empty ByteArray.empty); (let r3 := (law37_heavy.v (v0 a0) (st r2 (rl a1))); (let r4 := bif (bNot r3) then (ref03_Matches.v (rSl a1 2) (rSl r2 9)) else default; (bif (bIte r3 true (bNot r4)) then (let r5 := (law37_awake.v ); r5) else (Sum.elim (fun r6 => r6) (fun r7 => (let r8 := (law37_awake.v ); r8)) (law37_SpreadSkew.w10 a0 a2 (rl a1) ((v0 a0), (st r2 (rl a1)))))))))))
theorem up_br {x : Row} {nm node : ByteArray} (h : Br x) (h1 : nm.size ≤ 140737488351232) (h2 : node.size ≤ 140737488351232) : Br (up x nm node) := (br_cons (brc_str (h.str 0)) (br_cons (brc_str (h.str 1)) (br_cons (brc_str h1) (br_cons brc_int (br_cons brc_int (br_cons brc_int (br_cons brc_int (br_cons brc_bool (br_cons brc_int (br_cons (brc_slice (h.sl 9)) (br_cons (brc_slice (h.sl 10)) (br_cons (brc_slice (h.sl 11)) (br_cons (brc_slice (h.sl 12)) (br_cons (brc_str h2) (br_cons brc_int (br_cons brc_int (br_cons brc_int (br_cons (brc_slice (h.sl 17)) (br_cons (brc_slice (h.sl 18)) (br_cons (brc_slice (h.sl 19)) (br_cons (brc_slice (h.sl 20)) (br_cons (brc_slice (h.sl 21)) (br_cons (brc_slice (h.sl 22)) (br_cons brc_int (br_cons brc_bool (br_cons brc_int (br_cons brc_int (br_cons brc_int (br_cons (brc_slice (h.sl 28)) (br_cons brc_int (br_cons (brc_str (h.str 30)) (br_cons (brc_str (h.str 31)) br_nil))))))))))))))))))))))))))))))))
theorem st_br {x ru : Row} (h : Br x) (h3 : Br ru) : Br (st x ru) := (br_cons (brc_str (h.str 0)) (br_cons (brc_str (h.str 1)) (br_cons (brc_str (h.str 2)) (br_cons brc_int (br_cons brc_int (br_cons brc_int (br_cons brc_int (br_cons brc_bool (br_cons brc_int (br_cons (brc_slice (h.sl 9)) (br_cons (brc_slice (h.sl 10)) (br_cons (brc_slice (h.sl 11)) (br_cons (brc_slice (h.sl 12)) (br_cons (brc_str (h.str 13)) (br_cons brc_int (br_cons brc_int (br_cons brc_int (br_cons (brc_slice (h.sl 17)) (br_cons (brc_slice (h.sl 18)) (br_cons (brc_slice (h.sl 19)) (br_cons (brc_slice (h.sl 20)) (br_cons (brc_slice (brs_of (Nat.le_of_ble_eq_true rfl) (all_cons h3 all_nil))) (br_cons (brc_slice (h.sl 22)) (br_cons brc_int (br_cons brc_bool (br_cons brc_int (br_cons brc_int (br_cons brc_int (br_cons (brc_slice (h.sl 28)) (br_cons brc_int (br_cons (brc_str (h.str 30)) (br_cons (brc_str (h.str 31)) br_nil))))))))))))))))))))))))))))))))
theorem vw_br {x : Row} {ps : Rows} (h : Br x) (h1 : Brs ps) : Br (vw x ps) := br_cons (brc_slice (h.sl 0)) (br_cons (brc_slice h1) (br_cons (brc_slice (h.sl 2)) (br_cons brc_int br_nil)))
theorem rl_br {a1 : Row} (h : Br a1) : Br (rl a1) := br_cons brc_int (br_cons (brc_str (h.str 1)) (br_cons (brc_slice (h.sl 2)) (br_cons brc_bool br_nil)))
theorem v0_br {ns : Rows} (h : Brs ns) : Br (v0 ns) := br_cons (brc_slice h) (br_cons (brc_slice brs_nil) (br_cons (brc_slice brs_nil) (br_cons brc_int br_nil)))
/-- A pod of an octet's range at each place. -/
def Oct (es : Rows) : Prop := ∀ q, q ∈ es → 0 ≤ rInt q 0 ∧ rInt q 0 ≤ 255
def Iv (ns : Rows) (i : Int) (x : Row × Row) : Prop := Br x.1 ∧ Br x.2 ∧ rSl x.1 0 = ns ∧ rLen (rSl x.1 1) ≤ i
theorem push_len (a : Rows) (q : Row) : rLen (rCat (rCat [] a) [q]) = rLen a + 1 := by unfold rLen rCat; simp
theorem w10_v (c0 c1 : Rows) (c2 : Row) (h0 : Brs c0) (h1 : Brs c1) (h2 : Br c2) (hn : iEq (rLen c0) 0 = false) (h8 : rLen c0 ≤ 8) (h16 : rLen c1 ≤ 16) (ho : Oct c1) (x0 : Row × Row) (hx : Iv c0 0 x0) :
    DV (fun k => iter (s10 k c0 c1 c2) k ((fun (x : Row × Row) (i : Int) => (i, x.1, x.2)) x0 0)) (w10 c0 c1 c2 x0) Pt := by
  refine DV.walk (fun (x : Row × Row) (i : Int) => (i, x.1, x.2)) h1.1 (p10 c0 c2) z10 (fun (i : Int) (x : Row × Row) => Iv c0 i x) Pt (fun i x hp hi hI => ?_) (fun i x hie hi hI => ?_) x0 hx
  · have hin := iIn_lt hp hi
    have hlt := of_decide_eq_true hi
    obtain ⟨b1, b2, b3, b4⟩ := hI
    have hmem : rAt c1 i ∈ c1 := by
      unfold rAt
      unfold rLen at hlt
      rw [List.getD_eq_getElem?_getD, List.getElem?_eq_getElem (by omega)]
      exact List.getElem_mem _
    have hq := ho _ hmem
    have hn0 := (h0.at (iRem (iCv .i64 (rInt (rAt c1 i) 0)) (rLen c0)))
    have h100 : 0 ≤ i ∧ i < 100 := ⟨hp, by omega⟩
    refine DG.tt hi (DG.tt hin (DG.tt (bnot_mk hn) (DG.tt (rem_in hq (rl_pos _) hn) (DG.bnd (ref01_Decimal.val i h100) (fun hr0 => ?_)))))
    have hs1 : (bs [112]).size ≤ 1 := Nat.le_of_ble_eq_true rfl
    have hnm : (sCat (bs [112]) (ref01_Decimal.v i)).size ≤ 140737488351232 := Nat.le_trans (sz_cat hs1 hr0) (by decide)
    have hsv : Sv (et 26 x.1) := sv_et ⟨by rw [b3]; omega, by omega⟩
    have hps : Brs (rCat (rCat [] (rSl x.1 1)) [up x.2 (sCat (bs [112]) (ref01_Decimal.v i)) (rStr (rAt c0 (iRem (iCv .i64 (rInt (rAt c1 i) 0)) (rLen c0))) 2)]) := brs_push (brs_nilcat (b1.sl 1)) (up_br b2 hnm (hn0.str 2)) (by show rLen (rSl x.1 1) ≤ _; omega)
    have hup := up_br b2 hnm (b2.str 13)
    have hv := vw_br b1 hps
    have hlen := push_len (rSl x.1 1) (up x.2 (sCat (bs [112]) (ref01_Decimal.v i)) (rStr (rAt c0 (iRem (iCv .i64 (rInt (rAt c1 i) 0)) (rLen c0))) 2))
    have hIn : Iv c0 (i + 1) (vw x.1 (rCat (rCat [] (rSl x.1 1)) [up x.2 (sCat (bs [112]) (ref01_Decimal.v i)) (rStr (rAt c0 (iRem (iCv .i64 (rInt (rAt c1 i) 0)) (rLen c0))) 2)]), up x.2 (sCat (bs [112]) (ref01_Decimal.v i)) (rStr x.2 13)) :=
      ⟨hv, hup, b3, by show rLen (rCat (rCat [] (rSl x.1 1)) [_]) ≤ _; rw [push_len]; omega⟩
    have hI2 : Iv c0 (i + 1) (et 26 x.1, up x.2 (sCat (bs [112]) (ref01_Decimal.v i)) (rStr x.2 13)) :=
      ⟨Br.eta b1 _, hup, by have e : rSl (et 26 x.1) 0 = rSl x.1 0 := by kernel_rfl
                            exact e.trans b3, Int.le_trans (le_et1 b4) (by omega)⟩
    refine DG.tt (sOk_sz hs1 hr0 (by decide)) (DG.bnd (spread_Fits.val _ _ _ (Br.eta b1 _) hup (Br.eta hn0 _) hsv) (fun hr1 => DG.test (fun _ => DG.inl rfl hI2) (fun _ => ?_)))
    refine DG.tt (rOk_new (by decide) (by show rLen (rSl x.1 1) ≤ _; omega)) (DG.tt (rOk_push (by decide) (by show rLen (rSl x.1 1) ≤ _; omega)) (DG.bnd (law37_distinct.val _ h0) (fun _ => DG.test (fun _ => DG.inl rfl hIn) (fun _ => ?_))))
    refine DG.bnd (spread_Counts.val _ _ _ hv (Nat.le_of_ble_eq_true rfl) (Br.eta h2 _) (by show rLen (rSl x.1 0) ≤ _; rw [b3]; omega)) (fun hr3 => DG.bnd (law37_gap.val _ hr3) (fun _ => DG.bnd (ref01_Clamp.val _ _ _) (fun _ => DG.test (fun _ => DG.inr rfl trivial) (fun _ => DG.inl rfl hIn))))
  · exact DG.ff hi (DG.ex rfl trivial)
theorem val (a0 : Rows) (a1 : Row) (a2 : Rows) (ha0 : Brs a0) (ha1 : Br a1) (ha2 : Brs a2) (ho : Oct a2) : DV (fun k => (f k a0 a1 a2).eval) (v a0 a1 a2) Pt := by
  refine DG.opt (fun _ => law37_wide.val _ (ha1.sl 2)) (fun _ => trivial) (fun _ => ?_)
  refine DG.test (fun _ => DG.bnd law37_awake.val (fun _ => DG.ret trivial)) (fun hg => ?_)
  have g1 := bite_ff hg
  have g2 := bite_ff g1
  have g3 := bite_ff g2
  rw [g2] at g1
  rw [g3] at g2
  have h8 : rLen a0 ≤ 8 := by have := of_decide_eq_false g3; omega
  have h16 : rLen a2 ≤ 16 := by have := of_decide_eq_false g2; omega
  have hn : iEq (rLen a0) 0 = false := g1
  refine DG.bnd (law37_member.val _ _ (Nat.zero_le _) (Nat.zero_le _)) (fun hr2 => ?_)
  have hst := st_br hr2 (rl_br ha1)
  refine DG.bnd (law37_heavy.val _ _ (v0_br ha0) hst) (fun _ => ?_)
  refine DG.opt (fun _ => ref03_Matches.val _ _ (ha1.sl 2) (hr2.sl 9)) (fun _ => trivial) (fun _ => ?_)
  refine DG.test (fun _ => DG.bnd law37_awake.val (fun _ => DG.ret trivial)) (fun _ => ?_)
  exact DG.cas (w10_v a0 a2 (rl a1) ha0 ha2 (rl_br ha1) hn h8 h16 ho _ ⟨v0_br ha0, hst, rfl, Int.le_refl _⟩) (fun r6 _ => DG.ret trivial) (fun r7 _ => DG.bnd law37_awake.val (fun _ => DG.ret trivial))
end law37_SpreadSkew
namespace law37_SpreadTotal
def p6 (c1 : Rows) (i : Int) (q : Row) (x : Int) : Int ⊕ (Bool ⊕ Int) := bif (bIte (iLt (rInt q 1) (0)) true (bIte (iLt (0) i) (bOr (sLt (rStr q 0) (rStr (rAt c1 (iSub .i64 i (1))) 0)) (sEq (rStr q 0) (rStr (rAt c1 (iSub .i64 i (1))) 0))) false)) then .inr (.inl false) else .inl (iAdd .i64 x (rInt q 1))
def w6 (c1 : Rows) : Bool ⊕ Int := walk (p6 c1) (fun x => .inr x) c1 0 (0)
def f17 (t s : ByteArray) (q : Row) (x : Bool) : Bool := bif sEq (rStr q 2) s then (ref36_Domain.v (et 61 q) t).2 else x
def w17 (t : ByteArray) (ns : Rows) (s : ByteArray) : Bool := ns.foldr (f17 t s) false
def okT (c0 : ByteArray) (c2 c3 : Row) (q : Row) : Bool := bIte (bIte (bIte (w17 (rStr c3 1) (rSl c2 0) (rStr q 13)) (ref33_Active.v (et 48 q)) false) (sEq (rStr q 1) c0) false) (ref03_Matches.v (rSl c3 2) (rSl q 9)) false
def p12 (c0 : ByteArray) (c2 c3 : Row) (i : Int) (q : Row) (x : Int) : Int ⊕ Int := bif okT c0 c2 c3 q then .inl (iAdd .i64 x (1)) else .inl x
def w12 (c0 : ByteArray) (c2 c3 : Row) : Int := walk (p12 c0 c2 c3) (fun x => x) (rSl c2 1) 0 (0)
def v (a0 : Row) (a1 : ByteArray) (a2 : Row) : Bool := (let r0 := (law37_heavy.v (et 26 a0) [.str ByteArray.empty, .str ByteArray.empty, .str ByteArray.empty, .int .i64 0, .int .i64 0, .int .i64 0, .int .i64 0, .bool false, .int .i64 0, .slice 93 [] .open, .slice 149 [] .open, .slice 9 [] .open, .slice 151 [] .open, .str ByteArray.empty, .int .i64 0, .int .i64 0, .int .i64 0, .slice 154 [] .open, .slice 76 [] .open, .slice 156 [] .open, .slice 158 [] .open, .slice 29 [] .open, .slice 160 [] .open, .int .i64 0, .bool false, .int .i64 0, .int .i64 0, .int .i64 0, .slice 162 [] .open, .int .i64 0, .str ByteArray.empty, .str ByteArray.empty]); (let r1 := bif (bNot r0) then (law37_wide.v (rSl a2 2)) else default; (bif (bIte r0 true r1) then law37_awake.v else (let r3 := (spread_Counts.v (et 26 a0) a1 (et 29 a2)); (Sum.elim (fun r4 => r4) (fun r5 => (let r6 := w12 a1 (et 26 a0) (et 29 a2); (let r7 := bif iEq r5 r6 then law37_awake.v else default; bIte (iEq r5 r6) r7 false))) (w6 r3))))))
theorem w6_v (c0 : ByteArray) (c1 : Rows) (c2 : Int) (c3 c4 : Row) (h1 : Brs c1) : DV (fun k => iter (s6 k c0 c1 c2 c3 c4) k ((fun (x : Int) (i : Int) => (x, i)) (0) 0)) (w6 c1) Pt := by
  have hle := rl_le h1
  refine DV.walk (fun (x : Int) (i : Int) => (x, i)) h1.1 (p6 c1) (fun x => .inr x) (fun (i : Int) (x : Int) => True) _ (fun i x hp hi hI => ?_) (fun i x hie hi hI => ?_) _ trivial
  · have hin := iIn_lt hp hi
    exact DG.tt hi (DG.tt hin (DG.tt hin (DG.tt (bimp_ hin) (DG.tt (bimp_sub hp hi hle) (DG.test (fun _ => DG.inr rfl trivial) (fun _ => DG.inl rfl trivial))))))
  · exact DG.ff hi (DG.ex rfl trivial)
theorem w17_v (c0 : ByteArray) (c1 c2 c3 : Int) (c4 c5 c6 : Row) (h4 : Br c4) (h5 : Br c5) : DV (fun k => iter (s17 k c0 c1 c2 c3 c4 c5 c6) k (false, (iSub .i64 (rLen (rSl c4 0)) (1)))) (w17 (rStr c5 1) (rSl c4 0) (rStr c6 13)) Pt := by
  have hb := h4.sl 0
  have hle := rl_le hb
  have hpos := rl_pos (rSl c4 0)
  have e : iSub .i64 (rLen (rSl c4 0)) (1) = rLen (rSl c4 0) - 1 := IntWalk.i64_in _ (by omega)
  rw [e]
  refine D.loop (fun x : Bool × Int => (-1 ≤ x.2 ∧ x.2 < rLen (rSl c4 0)) ∧ ((rSl c4 0).take (x.2 + 1).toNat).foldr (f17 (rStr c5 1) (rStr c6 13)) x.1 = w17 (rStr c5 1) (rSl c4 0) (rStr c6 13)) (fun x => (x.2 + 1).toNat) _ (fun x hx => ?_) _ ⟨by dsimp only; omega, ?_⟩
  · obtain ⟨⟨h1, h2⟩, h3⟩ := hx
    by_cases hi : 0 ≤ x.2
    · have hin : iIn x.2 (rLen (rSl c4 0)) = true := decide_eq_true ⟨hi, h2⟩
      have hs : iSub .i64 x.2 (1) = x.2 - 1 := IntWalk.i64_in _ (by omega)
      have htk : (rSl c4 0).take (x.2 + 1).toNat = (rSl c4 0).take x.2.toNat ++ [rAt (rSl c4 0) x.2] := by
        have e1 : (x.2 + 1).toNat = x.2.toNat + 1 := by omega
        have e2 : x.2.toNat < (rSl c4 0).length := by unfold rLen at h2; omega
        rw [e1, List.take_add_one, List.getElem?_eq_getElem e2]
        unfold rAt
        rw [List.getD_eq_getElem?_getD, List.getElem?_eq_getElem e2]; rfl
      rw [htk, List.foldr_append] at h3
      have h3 : ((rSl c4 0).take x.2.toNat).foldr (f17 (rStr c5 1) (rStr c6 13)) (f17 (rStr c5 1) (rStr c6 13) (rAt (rSl c4 0) x.2) x.1) = _ := h3
      have hm : (x.2 - 1 + 1).toNat < (x.2 + 1).toNat := by omega
      have ht : (x.2 - 1 + 1).toNat = x.2.toNat := by omega
      refine D.tt (decide_eq_true hi) (D.tt hin (D.bnd (ref36_Domain.val (et 61 (rAt (rSl c4 0) x.2)) (rStr c5 1) (Br.eta (hb.at x.2) _)) (fun r hr => D.tt hin ?_)))
      obtain ⟨rfl, _⟩ := hr
      refine D.test (fun hc => D.ret ?_) (fun hc => D.ret ?_)
      · have hf : f17 (rStr c5 1) (rStr c6 13) (rAt (rSl c4 0) x.2) x.1 = (ref36_Domain.v (et 61 (rAt (rSl c4 0) x.2)) (rStr c5 1)).2 := by
          unfold f17; rw [hc]; rfl
        rw [hf] at h3
        dsimp only
        rw [hs, ht]
        exact ⟨⟨by omega, h3⟩, by omega⟩
      · have hf : f17 (rStr c5 1) (rStr c6 13) (rAt (rSl c4 0) x.2) x.1 = x.1 := by
          unfold f17; rw [hc]; rfl
        rw [hf] at h3
        dsimp only
        rw [hs, ht]
        exact ⟨⟨by omega, h3⟩, by omega⟩
    · have h0 : x.2 = -1 := by omega
      rw [h0] at h3
      have hi' : iLe 0 x.2 = false := decide_eq_false hi
      refine D.test (fun hc => ?_) (fun _ => D.ret ⟨h3, trivial⟩)
      rw [hi'] at hc; cases hc
  · show ((rSl c4 0).take (rLen (rSl c4 0) - 1 + 1).toNat).foldr _ false = _
    have e1 : (rLen (rSl c4 0) - 1 + 1).toNat = (rSl c4 0).length := by unfold rLen; omega
    rw [e1, List.take_length]; rfl
theorem w12_v (c0 : ByteArray) (c1 : Int) (c2 c3 : Row) (h2 : Br c2) (h3 : Br c3) : DV (fun k => iter (s12 k c0 c1 c2 c3) k ((fun (x : Int) (i : Int) => (x, i)) (0) 0)) (w12 c0 c2 c3) Pt := by
  refine DV.walk (fun (x : Int) (i : Int) => (x, i)) (h2.sl 1).1 (p12 c0 c2 c3) (fun x => x) (fun (i : Int) (x : Int) => True) _ (fun i x hp hi hI => ?_) (fun i x hie hi hI => ?_) _ trivial
  · have hin := iIn_lt hp hi
    have hq := (h2.sl 1).at i
    refine DG.tt hi (DG.tt hin (DG.bnd (w17_v c0 c1 x i _ _ _ (Br.eta h2 _) (Br.eta h3 _)) (fun _ => ?_)))
    refine DG.opt (fun _ => ref33_Active.val _) (fun _ => trivial) (fun _ => ?_)
    refine DG.opt (fun _ => ref03_Matches.val _ _ (h3.sl 2) (hq.sl 9)) (fun _ => trivial) (fun _ => ?_)
    have hok : ∀ (a b c d : Bool), bIte (bIte (bIte a (bif a then b else default) false) c false) (bif (bIte (bIte a (bif a then b else default) false) c false) then d else default) false = bIte (bIte (bIte a b false) c false) d false := by
      intro a b c d; cases a <;> cases b <;> cases c <;> rfl
    rw [hok]
    exact DG.test (fun _ => DG.inl rfl trivial) (fun _ => DG.inl rfl trivial)
  · exact DG.ff hi (DG.ex rfl trivial)
theorem val (a0 : Row) (a1 : ByteArray) (a2 : Row) (ha0 : Br a0) (ha1 : Sz 140737488351232 a1) (ha2 : Br a2) : DV (fun k => (f k a0 a1 a2).eval) (v a0 a1 a2) Pt := by
  refine DG.bnd (law37_heavy.val _ _ (Br.eta ha0 _) (br_cons (brc_str (Nat.le_trans (@Nat.le_of_ble_eq_true _ 0 rfl) (Nat.le_of_ble_eq_true rfl))) (br_cons (brc_str (Nat.le_trans (@Nat.le_of_ble_eq_true _ 0 rfl) (Nat.le_of_ble_eq_true rfl))) (br_cons (brc_str (Nat.le_trans (@Nat.le_of_ble_eq_true _ 0 rfl) (Nat.le_of_ble_eq_true rfl))) (br_cons brc_int (br_cons brc_int (br_cons brc_int (br_cons brc_int (br_cons brc_bool (br_cons brc_int (br_cons (brc_slice (brs_of (Nat.le_of_ble_eq_true rfl) all_nil)) (br_cons (brc_slice (brs_of (Nat.le_of_ble_eq_true rfl) all_nil)) (br_cons (brc_slice (brs_of (Nat.le_of_ble_eq_true rfl) all_nil)) (br_cons (brc_slice (brs_of (Nat.le_of_ble_eq_true rfl) all_nil)) (br_cons (brc_str (Nat.le_trans (@Nat.le_of_ble_eq_true _ 0 rfl) (Nat.le_of_ble_eq_true rfl))) (br_cons brc_int (br_cons brc_int (br_cons brc_int (br_cons (brc_slice (brs_of (Nat.le_of_ble_eq_true rfl) all_nil)) (br_cons (brc_slice (brs_of (Nat.le_of_ble_eq_true rfl) all_nil)) (br_cons (brc_slice (brs_of (Nat.le_of_ble_eq_true rfl) all_nil)) (br_cons (brc_slice (brs_of (Nat.le_of_ble_eq_true rfl) all_nil)) (br_cons (brc_slice (brs_of (Nat.le_of_ble_eq_true rfl) all_nil)) (br_cons (brc_slice (brs_of (Nat.le_of_ble_eq_true rfl) all_nil)) (br_cons brc_int (br_cons brc_bool (br_cons brc_int (br_cons brc_int (br_cons brc_int (br_cons (brc_slice (brs_of (Nat.le_of_ble_eq_true rfl) all_nil)) (br_cons brc_int (br_cons (brc_str (Nat.le_trans (@Nat.le_of_ble_eq_true _ 0 rfl) (Nat.le_of_ble_eq_true rfl))) (br_cons (brc_str (Nat.le_trans (@Nat.le_of_ble_eq_true _ 0 rfl) (Nat.le_of_ble_eq_true rfl))) br_nil))))))))))))))))))))))))))))))))) (fun hr0 => ?_)
  refine DG.opt (fun h_2 => (law37_wide.val _ (Br.sl ha2 _))) (fun _ => trivial) (fun hr1 => ?_)
  refine DG.test (fun _ => DG.bnd law37_awake.val (fun _ => DG.ret trivial)) (fun h_3 => ?_)
  refine DG.bnd (spread_Counts.val _ _ _ (Br.eta ha0 _) ha1 (Br.eta ha2 _) (heavy_small (bite_ff h_3)).1) (fun hr3 => ?_)
  refine DG.cas (w6_v a1 _ (0) (et 26 a0) (et 29 a2) hr3) (fun r4 _ => DG.ret trivial) (fun r5 _ => ?_)
  refine DG.bnd (w12_v a1 r5 (et 26 a0) (et 29 a2) (Br.eta ha0 _) (Br.eta ha2 _)) (fun _ => ?_)
  exact DG.opt (fun _ => law37_awake.val) (fun _ => trivial) (fun _ => DG.ret trivial)
end law37_SpreadTotal

end
end Go.Proofs.Ytohhdiifohhghaa.Ev
