/- That printed functions answer on short rows. Conditions: stated at each. -/
import Derived.Test.YthnkchbcinlnnaaGreatDoorPl
import Derived.Test.YthnkchbcinlnnaaGreatDoorE1
namespace Go.Proofs.YthnkchbcinlnnaaGreatDoor.Ev
open Go Go.RowKit
set_option linter.unusedVariables false
set_option maxRecDepth 100000
namespace ref19_str
theorem dd (a0 : ByteArray) (ha0 : a0.size ≤ 1048576) : D (fun k => (f k a0).eval) Br := (D.ret (br_cons brc_int (br_cons brc_int (br_cons (brc_str ha0) (br_cons (brc_slice (brs_of (Nat.le_of_ble_eq_true rfl) all_nil)) (br_cons (brc_slice (brs_of (Nat.le_of_ble_eq_true rfl) all_nil)) br_nil))))))
end ref19_str
namespace ref19_at
theorem dd (a0 : ByteArray) (a1 : Row) (ha0 : a0.size ≤ 1048576) (ha1 : Br a1) : D (fun k => (f k a0 a1).eval) Br := (D.ret (br_rJ (all_cons (br_cons (brc_str ha0) br_nil) (all_cons (Br.eta ha1 _) all_nil))))
end ref19_at
namespace ref19_num
theorem dd (a0 : Int) : D (fun k => (f k a0).eval) Br := (D.ret (br_cons brc_int (br_cons brc_int (br_cons (brc_str (Nat.zero_le _)) (br_cons (brc_slice (brs_of (Nat.le_of_ble_eq_true rfl) all_nil)) (br_cons (brc_slice (brs_of (Nat.le_of_ble_eq_true rfl) all_nil)) br_nil))))))
end ref19_num
namespace ref19_object
theorem dd (a0 : Rows) (ha0 : Brs a0) : D (fun k => (f k a0).eval) Br := (D.ret (br_cons brc_int (br_cons brc_int (br_cons (brc_str (Nat.zero_le _)) (br_cons (brc_slice (brs_of (Nat.le_of_ble_eq_true rfl) all_nil)) (br_cons (brc_slice ha0) br_nil))))))
end ref19_object
namespace ref19_fromResources
theorem dd (a0 : Row) : D (fun k => (f k a0).eval) Br := (D.bnd (ref19_num.dd _) (fun r0 hr0 => (D.bnd (ref19_at.dd _ _ (Nat.le_of_ble_eq_true rfl) (Br.eta hr0 _)) (fun r1 hr1 => (D.bnd (ref19_num.dd _) (fun r2 hr2 => (D.bnd (ref19_at.dd _ _ (Nat.le_of_ble_eq_true rfl) (Br.eta hr2 _)) (fun r3 hr3 => (D.bnd (ref19_num.dd _) (fun r4 hr4 => (D.bnd (ref19_at.dd _ _ (Nat.le_of_ble_eq_true rfl) (Br.eta hr4 _)) (fun r5 hr5 => (D.bnd (ref19_object.dd _ (brs_of (Nat.le_of_ble_eq_true rfl) (all_cons (Br.eta hr1 _) (all_cons (Br.eta hr3 _) (all_cons (Br.eta hr5 _) all_nil))))) (fun r6 hr6 => (D.ret (Br.eta hr6 _))))))))))))))))
end ref19_fromResources
namespace ref19_list
theorem dd (a0 : Rows) (ha0 : Brs a0) : D (fun k => (f k a0).eval) Br := (D.ret (br_cons brc_int (br_cons brc_int (br_cons (brc_str (Nat.zero_le _)) (br_cons (brc_slice ha0) (br_cons (brc_slice (brs_of (Nat.le_of_ble_eq_true rfl) all_nil)) br_nil))))))
end ref19_list
namespace ref19_fromProbes
theorem s3_dd (c0 : Rows) (c1 : Row) (hc0 : Brs c0) : D (fun k => iter (s3 k c0 c1) k ([], 0)) Brs := by
  refine D.made (es := c0) hc0 (fun out i hp hi hl ho => ?_) (fun out i hi => ?_)
  · have hin := iIn_of hp.1 hi
    have hok : ∀ q : Row, rOk 80 (rLen out) (rLen [q]) = true := made_ok hc0 hi hl
    exact (D.tt hi (D.tt hin (D.bnd (ref19_num.dd _) (fun r0 hr0 => (D.bnd (ref19_at.dd _ _ (Nat.le_of_ble_eq_true rfl) (Br.eta hr0 _)) (fun r1 hr1 => (D.tt hin (D.bnd (ref19_num.dd _) (fun r2 hr2 => (D.bnd (ref19_at.dd _ _ (Nat.le_of_ble_eq_true rfl) (Br.eta hr2 _)) (fun r3 hr3 => (D.tt hin (D.bnd (ref19_num.dd _) (fun r4 hr4 => (D.bnd (ref19_at.dd _ _ (Nat.le_of_ble_eq_true rfl) (Br.eta hr4 _)) (fun r5 hr5 => (D.tt hin (D.bnd (ref19_num.dd _) (fun r6 hr6 => (D.bnd (ref19_at.dd _ _ (Nat.le_of_ble_eq_true rfl) (Br.eta hr6 _)) (fun r7 hr7 => (D.bnd (ref19_object.dd _ (brs_of (Nat.le_of_ble_eq_true rfl) (all_cons (Br.eta hr1 _) (all_cons (Br.eta hr3 _) (all_cons (Br.eta hr5 _) (all_cons (Br.eta hr7 _) all_nil)))))) (fun r8 hr8 => (D.tt (hok _) (D.ret ⟨_, (Br.eta hr8 _), rfl⟩)))))))))))))))))))))))))
  · exact D.test (fun e => by rw [hi] at e; cases e) (fun _ => D.ret rfl)
theorem dd (a0 : Rows) (ha0 : Brs a0) : D (fun k => (f k a0).eval) Br := (D.bnd (ref19_fromProbes.s3_dd _ _ ha0) (fun r0 hr0 => (D.bnd (ref19_list.dd _ hr0) (fun r1 hr1 => (D.ret (Br.eta hr1 _))))))
end ref19_fromProbes
namespace ref19_fromContainers
theorem s3_dd (c0 : Rows) (c1 : Row) (hc0 : Brs c0) : D (fun k => iter (s3 k c0 c1) k ([], 0)) Brs := by
  refine D.made (es := c0) hc0 (fun out i hp hi hl ho => ?_) (fun out i hi => ?_)
  · have hin := iIn_of hp.1 hi
    have hok : ∀ q : Row, rOk 80 (rLen out) (rLen [q]) = true := made_ok hc0 hi hl
    exact (D.tt hi (D.tt hin (D.bnd (ref19_str.dd _ (Br.str (Brs.at hc0 _) _)) (fun r0 hr0 => (D.bnd (ref19_at.dd _ _ (Nat.le_of_ble_eq_true rfl) (Br.eta hr0 _)) (fun r1 hr1 => (D.bnd (ref19_fromResources.dd _) (fun r2 hr2 => (D.bnd (ref19_at.dd _ _ (Nat.le_of_ble_eq_true rfl) (Br.eta hr2 _)) (fun r3 hr3 => (D.bnd (ref19_fromProbes.dd _ (Br.sl (Brs.at hc0 _) _)) (fun r4 hr4 => (D.bnd (ref19_at.dd _ _ (Nat.le_of_ble_eq_true rfl) (Br.eta hr4 _)) (fun r5 hr5 => (D.bnd (ref19_str.dd _ (Br.str (Brs.at hc0 _) _)) (fun r6 hr6 => (D.bnd (ref19_at.dd _ _ (Nat.le_of_ble_eq_true rfl) (Br.eta hr6 _)) (fun r7 hr7 => (D.bnd (ref19_fromProbes.dd _ (Br.sl (Brs.at hc0 _) _)) (fun r8 hr8 => (D.bnd (ref19_at.dd _ _ (Nat.le_of_ble_eq_true rfl) (Br.eta hr8 _)) (fun r9 hr9 => (D.bnd (ref19_fromResources.dd _) (fun r10 hr10 => (D.bnd (ref19_at.dd _ _ (Nat.le_of_ble_eq_true rfl) (Br.eta hr10 _)) (fun r11 hr11 => (D.bnd (ref19_fromProbes.dd _ (Br.sl (Brs.at hc0 _) _)) (fun r12 hr12 => (D.bnd (ref19_at.dd _ _ (Nat.le_of_ble_eq_true rfl) (Br.eta hr12 _)) (fun r13 hr13 => (D.bnd (ref19_object.dd _ (brs_of (Nat.le_of_ble_eq_true rfl) (all_cons (Br.eta hr1 _) (all_cons (Br.eta hr3 _) (all_cons (Br.eta hr5 _) (all_cons (Br.eta hr7 _) (all_cons (Br.eta hr9 _) (all_cons (Br.eta hr11 _) (all_cons (Br.eta hr13 _) all_nil))))))))) (fun r14 hr14 => (D.tt (hok _) (D.ret ⟨_, (Br.eta hr14 _), rfl⟩))))))))))))))))))))))))))))))))))
  · exact D.test (fun e => by rw [hi] at e; cases e) (fun _ => D.ret rfl)
theorem dd (a0 : Rows) (ha0 : Brs a0) : D (fun k => (f k a0).eval) Br := (D.bnd (ref19_fromContainers.s3_dd _ _ ha0) (fun r0 hr0 => (D.bnd (ref19_list.dd _ hr0) (fun r1 hr1 => (D.ret (Br.eta hr1 _))))))
end ref19_fromContainers
namespace ref19_FromStrings
theorem s3_dd (c0 : Rows) (c1 : Row) (hc0 : Brs c0) : D (fun k => iter (s3 k c0 c1) k ([], 0)) Brs := by
  refine D.made (es := c0) hc0 (fun out i hp hi hl ho => ?_) (fun out i hi => ?_)
  · have hin := iIn_of hp.1 hi
    have hok : ∀ q : Row, rOk 80 (rLen out) (rLen [q]) = true := made_ok hc0 hi hl
    exact (D.tt hi (D.tt hin (D.bnd (ref19_str.dd _ (Br.str (Brs.at hc0 _) _)) (fun r0 hr0 => (D.tt (hok _) (D.ret ⟨_, (Br.eta hr0 _), rfl⟩))))))
  · exact D.test (fun e => by rw [hi] at e; cases e) (fun _ => D.ret rfl)
theorem dd (a0 : Rows) (ha0 : Brs a0) : D (fun k => (f k a0).eval) Br := (D.bnd (ref19_FromStrings.s3_dd _ _ ha0) (fun r0 hr0 => (D.bnd (ref19_list.dd _ hr0) (fun r1 hr1 => (D.ret (Br.eta hr1 _))))))
end ref19_FromStrings
namespace ref19_FromSelector
theorem s3_dd (c0 : Rows) (c1 : Row) (hc0 : Brs c0) : D (fun k => iter (s3 k c0 c1) k ([], 0)) Brs := by
  refine D.made (es := c0) hc0 (fun out i hp hi hl ho => ?_) (fun out i hi => ?_)
  · have hin := iIn_of hp.1 hi
    have hok : ∀ q : Row, rOk 80 (rLen out) (rLen [q]) = true := made_ok hc0 hi hl
    exact (D.tt hi (D.tt hin (D.bnd (ref19_str.dd _ (Br.str (Brs.at hc0 _) _)) (fun r0 hr0 => (D.bnd (ref19_at.dd _ _ (Nat.le_of_ble_eq_true rfl) (Br.eta hr0 _)) (fun r1 hr1 => (D.tt hin (D.bnd (ref19_num.dd _) (fun r2 hr2 => (D.bnd (ref19_at.dd _ _ (Nat.le_of_ble_eq_true rfl) (Br.eta hr2 _)) (fun r3 hr3 => (D.tt hin (D.bnd (ref19_FromStrings.dd _ (Br.sl (Brs.at hc0 _) _)) (fun r4 hr4 => (D.bnd (ref19_at.dd _ _ (Nat.le_of_ble_eq_true rfl) (Br.eta hr4 _)) (fun r5 hr5 => (D.bnd (ref19_object.dd _ (brs_of (Nat.le_of_ble_eq_true rfl) (all_cons (Br.eta hr1 _) (all_cons (Br.eta hr3 _) (all_cons (Br.eta hr5 _) all_nil))))) (fun r6 hr6 => (D.tt (hok _) (D.ret ⟨_, (Br.eta hr6 _), rfl⟩))))))))))))))))))))
  · exact D.test (fun e => by rw [hi] at e; cases e) (fun _ => D.ret rfl)
theorem dd (a0 : Rows) (ha0 : Brs a0) : D (fun k => (f k a0).eval) Br := (D.bnd (ref19_FromSelector.s3_dd _ _ ha0) (fun r0 hr0 => (D.bnd (ref19_list.dd _ hr0) (fun r1 hr1 => (D.ret (Br.eta hr1 _))))))
end ref19_FromSelector
namespace ref19_truth
theorem dd (a0 : Bool) : D (fun k => (f k a0).eval) Br := (D.test (fun hb => (D.ret (br_cons brc_int (br_cons brc_int (br_cons (brc_str (Nat.zero_le _)) (br_cons (brc_slice (brs_of (Nat.le_of_ble_eq_true rfl) all_nil)) (br_cons (brc_slice (brs_of (Nat.le_of_ble_eq_true rfl) all_nil)) br_nil))))))) (fun hb => (D.ret (br_cons brc_int (br_cons brc_int (br_cons (brc_str (Nat.zero_le _)) (br_cons (brc_slice (brs_of (Nat.le_of_ble_eq_true rfl) all_nil)) (br_cons (brc_slice (brs_of (Nat.le_of_ble_eq_true rfl) all_nil)) br_nil))))))))
end ref19_truth
namespace ref19_fromNodeTerms
theorem s3_dd (c0 : Rows) (c1 : Row) (hc0 : Brs c0) : D (fun k => iter (s3 k c0 c1) k ([], 0)) Brs := by
  refine D.made (es := c0) hc0 (fun out i hp hi hl ho => ?_) (fun out i hi => ?_)
  · have hin := iIn_of hp.1 hi
    have hok : ∀ q : Row, rOk 80 (rLen out) (rLen [q]) = true := made_ok hc0 hi hl
    exact (D.tt hi (D.tt hin (D.bnd (ref19_truth.dd _) (fun r0 hr0 => (D.bnd (ref19_at.dd _ _ (Nat.le_of_ble_eq_true rfl) (Br.eta hr0 _)) (fun r1 hr1 => (D.tt hin (D.bnd (ref19_FromSelector.dd _ (Br.sl (Brs.at hc0 _) _)) (fun r2 hr2 => (D.bnd (ref19_at.dd _ _ (Nat.le_of_ble_eq_true rfl) (Br.eta hr2 _)) (fun r3 hr3 => (D.tt hin (D.bnd (ref19_num.dd _) (fun r4 hr4 => (D.bnd (ref19_at.dd _ _ (Nat.le_of_ble_eq_true rfl) (Br.eta hr4 _)) (fun r5 hr5 => (D.bnd (ref19_object.dd _ (brs_of (Nat.le_of_ble_eq_true rfl) (all_cons (Br.eta hr1 _) (all_cons (Br.eta hr3 _) (all_cons (Br.eta hr5 _) all_nil))))) (fun r6 hr6 => (D.tt (hok _) (D.ret ⟨_, (Br.eta hr6 _), rfl⟩))))))))))))))))))))
  · exact D.test (fun e => by rw [hi] at e; cases e) (fun _ => D.ret rfl)
theorem dd (a0 : Rows) (ha0 : Brs a0) : D (fun k => (f k a0).eval) Br := (D.bnd (ref19_fromNodeTerms.s3_dd _ _ ha0) (fun r0 hr0 => (D.bnd (ref19_list.dd _ hr0) (fun r1 hr1 => (D.ret (Br.eta hr1 _))))))
end ref19_fromNodeTerms
namespace ref19_fromPodTerms
theorem s3_dd (c0 : Rows) (c1 : Row) (hc0 : Brs c0) : D (fun k => iter (s3 k c0 c1) k ([], 0)) Brs := by
  refine D.made (es := c0) hc0 (fun out i hp hi hl ho => ?_) (fun out i hi => ?_)
  · have hin := iIn_of hp.1 hi
    have hok : ∀ q : Row, rOk 80 (rLen out) (rLen [q]) = true := made_ok hc0 hi hl
    exact (D.tt hi (D.tt hin (D.bnd (ref19_truth.dd _) (fun r0 hr0 => (D.bnd (ref19_at.dd _ _ (Nat.le_of_ble_eq_true rfl) (Br.eta hr0 _)) (fun r1 hr1 => (D.tt hin (D.bnd (ref19_truth.dd _) (fun r2 hr2 => (D.bnd (ref19_at.dd _ _ (Nat.le_of_ble_eq_true rfl) (Br.eta hr2 _)) (fun r3 hr3 => (D.tt hin (D.bnd (ref19_FromSelector.dd _ (Br.sl (Brs.at hc0 _) _)) (fun r4 hr4 => (D.bnd (ref19_at.dd _ _ (Nat.le_of_ble_eq_true rfl) (Br.eta hr4 _)) (fun r5 hr5 => (D.tt hin (D.bnd (ref19_str.dd _ (Br.str (Brs.at hc0 _) _)) (fun r6 hr6 => (D.bnd (ref19_at.dd _ _ (Nat.le_of_ble_eq_true rfl) (Br.eta hr6 _)) (fun r7 hr7 => (D.tt hin (D.bnd (ref19_num.dd _) (fun r8 hr8 => (D.bnd (ref19_at.dd _ _ (Nat.le_of_ble_eq_true rfl) (Br.eta hr8 _)) (fun r9 hr9 => (D.bnd (ref19_object.dd _ (brs_of (Nat.le_of_ble_eq_true rfl) (all_cons (Br.eta hr1 _) (all_cons (Br.eta hr3 _) (all_cons (Br.eta hr5 _) (all_cons (Br.eta hr7 _) (all_cons (Br.eta hr9 _) all_nil))))))) (fun r10 hr10 => (D.tt (hok _) (D.ret ⟨_, (Br.eta hr10 _), rfl⟩))))))))))))))))))))))))))))))
  · exact D.test (fun e => by rw [hi] at e; cases e) (fun _ => D.ret rfl)
theorem dd (a0 : Rows) (ha0 : Brs a0) : D (fun k => (f k a0).eval) Br := (D.bnd (ref19_fromPodTerms.s3_dd _ _ ha0) (fun r0 hr0 => (D.bnd (ref19_list.dd _ hr0) (fun r1 hr1 => (D.ret (Br.eta hr1 _))))))
end ref19_fromPodTerms
namespace ref19_fromSpread
theorem s3_dd (c0 : Rows) (c1 : Row) (hc0 : Brs c0) : D (fun k => iter (s3 k c0 c1) k ([], 0)) Brs := by
  refine D.made (es := c0) hc0 (fun out i hp hi hl ho => ?_) (fun out i hi => ?_)
  · have hin := iIn_of hp.1 hi
    have hok : ∀ q : Row, rOk 80 (rLen out) (rLen [q]) = true := made_ok hc0 hi hl
    exact (D.tt hi (D.tt hin (D.bnd (ref19_num.dd _) (fun r0 hr0 => (D.bnd (ref19_at.dd _ _ (Nat.le_of_ble_eq_true rfl) (Br.eta hr0 _)) (fun r1 hr1 => (D.tt hin (D.bnd (ref19_truth.dd _) (fun r2 hr2 => (D.bnd (ref19_at.dd _ _ (Nat.le_of_ble_eq_true rfl) (Br.eta hr2 _)) (fun r3 hr3 => (D.tt hin (D.bnd (ref19_FromSelector.dd _ (Br.sl (Brs.at hc0 _) _)) (fun r4 hr4 => (D.bnd (ref19_at.dd _ _ (Nat.le_of_ble_eq_true rfl) (Br.eta hr4 _)) (fun r5 hr5 => (D.tt hin (D.bnd (ref19_str.dd _ (Br.str (Brs.at hc0 _) _)) (fun r6 hr6 => (D.bnd (ref19_at.dd _ _ (Nat.le_of_ble_eq_true rfl) (Br.eta hr6 _)) (fun r7 hr7 => (D.bnd (ref19_object.dd _ (brs_of (Nat.le_of_ble_eq_true rfl) (all_cons (Br.eta hr1 _) (all_cons (Br.eta hr3 _) (all_cons (Br.eta hr5 _) (all_cons (Br.eta hr7 _) all_nil)))))) (fun r8 hr8 => (D.tt (hok _) (D.ret ⟨_, (Br.eta hr8 _), rfl⟩)))))))))))))))))))))))))
  · exact D.test (fun e => by rw [hi] at e; cases e) (fun _ => D.ret rfl)
theorem dd (a0 : Rows) (ha0 : Brs a0) : D (fun k => (f k a0).eval) Br := (D.bnd (ref19_fromSpread.s3_dd _ _ ha0) (fun r0 hr0 => (D.bnd (ref19_list.dd _ hr0) (fun r1 hr1 => (D.ret (Br.eta hr1 _))))))
end ref19_fromSpread
namespace ref19_fromTolerations
theorem s3_dd (c0 : Rows) (c1 : Row) (hc0 : Brs c0) : D (fun k => iter (s3 k c0 c1) k ([], 0)) Brs := by
  refine D.made (es := c0) hc0 (fun out i hp hi hl ho => ?_) (fun out i hi => ?_)
  · have hin := iIn_of hp.1 hi
    have hok : ∀ q : Row, rOk 80 (rLen out) (rLen [q]) = true := made_ok hc0 hi hl
    exact (D.tt hi (D.tt hin (D.bnd (ref19_num.dd _) (fun r0 hr0 => (D.bnd (ref19_at.dd _ _ (Nat.le_of_ble_eq_true rfl) (Br.eta hr0 _)) (fun r1 hr1 => (D.tt hin (D.bnd (ref19_truth.dd _) (fun r2 hr2 => (D.bnd (ref19_at.dd _ _ (Nat.le_of_ble_eq_true rfl) (Br.eta hr2 _)) (fun r3 hr3 => (D.tt hin (D.bnd (ref19_str.dd _ (Br.str (Brs.at hc0 _) _)) (fun r4 hr4 => (D.bnd (ref19_at.dd _ _ (Nat.le_of_ble_eq_true rfl) (Br.eta hr4 _)) (fun r5 hr5 => (D.tt hin (D.bnd (ref19_num.dd _) (fun r6 hr6 => (D.bnd (ref19_at.dd _ _ (Nat.le_of_ble_eq_true rfl) (Br.eta hr6 _)) (fun r7 hr7 => (D.tt hin (D.bnd (ref19_str.dd _ (Br.str (Brs.at hc0 _) _)) (fun r8 hr8 => (D.bnd (ref19_at.dd _ _ (Nat.le_of_ble_eq_true rfl) (Br.eta hr8 _)) (fun r9 hr9 => (D.bnd (ref19_object.dd _ (brs_of (Nat.le_of_ble_eq_true rfl) (all_cons (Br.eta hr1 _) (all_cons (Br.eta hr3 _) (all_cons (Br.eta hr5 _) (all_cons (Br.eta hr7 _) (all_cons (Br.eta hr9 _) all_nil))))))) (fun r10 hr10 => (D.tt (hok _) (D.ret ⟨_, (Br.eta hr10 _), rfl⟩))))))))))))))))))))))))))))))
  · exact D.test (fun e => by rw [hi] at e; cases e) (fun _ => D.ret rfl)
theorem dd (a0 : Rows) (ha0 : Brs a0) : D (fun k => (f k a0).eval) Br := (D.bnd (ref19_fromTolerations.s3_dd _ _ ha0) (fun r0 hr0 => (D.bnd (ref19_list.dd _ hr0) (fun r1 hr1 => (D.ret (Br.eta hr1 _))))))
end ref19_fromTolerations
namespace ref19_FromSpec
theorem dd (a0 : Row) (ha0 : Br a0) : D (fun k => (f k a0).eval) Br := (D.bnd (ref19_fromContainers.dd _ (Br.sl ha0 _)) (fun r0 hr0 => (D.bnd (ref19_at.dd _ _ (Nat.le_of_ble_eq_true rfl) (Br.eta hr0 _)) (fun r1 hr1 => (D.bnd (ref19_num.dd _) (fun r2 hr2 => (D.bnd (ref19_at.dd _ _ (Nat.le_of_ble_eq_true rfl) (Br.eta hr2 _)) (fun r3 hr3 => (D.bnd (ref19_str.dd _ (Br.str ha0 _)) (fun r4 hr4 => (D.bnd (ref19_at.dd _ _ (Nat.le_of_ble_eq_true rfl) (Br.eta hr4 _)) (fun r5 hr5 => (D.bnd (ref19_FromSelector.dd _ (Br.sl ha0 _)) (fun r6 hr6 => (D.bnd (ref19_at.dd _ _ (Nat.le_of_ble_eq_true rfl) (Br.eta hr6 _)) (fun r7 hr7 => (D.bnd (ref19_fromNodeTerms.dd _ (Br.sl ha0 _)) (fun r8 hr8 => (D.bnd (ref19_at.dd _ _ (Nat.le_of_ble_eq_true rfl) (Br.eta hr8 _)) (fun r9 hr9 => (D.bnd (ref19_fromPodTerms.dd _ (Br.sl ha0 _)) (fun r10 hr10 => (D.bnd (ref19_at.dd _ _ (Nat.le_of_ble_eq_true rfl) (Br.eta hr10 _)) (fun r11 hr11 => (D.bnd (ref19_num.dd _) (fun r12 hr12 => (D.bnd (ref19_at.dd _ _ (Nat.le_of_ble_eq_true rfl) (Br.eta hr12 _)) (fun r13 hr13 => (D.bnd (ref19_num.dd _) (fun r14 hr14 => (D.bnd (ref19_at.dd _ _ (Nat.le_of_ble_eq_true rfl) (Br.eta hr14 _)) (fun r15 hr15 => (D.bnd (ref19_fromSpread.dd _ (Br.sl ha0 _)) (fun r16 hr16 => (D.bnd (ref19_at.dd _ _ (Nat.le_of_ble_eq_true rfl) (Br.eta hr16 _)) (fun r17 hr17 => (D.bnd (ref19_fromTolerations.dd _ (Br.sl ha0 _)) (fun r18 hr18 => (D.bnd (ref19_at.dd _ _ (Nat.le_of_ble_eq_true rfl) (Br.eta hr18 _)) (fun r19 hr19 => (D.bnd (ref19_object.dd _ (brs_of (Nat.le_of_ble_eq_true rfl) (all_cons (Br.eta hr1 _) (all_cons (Br.eta hr3 _) (all_cons (Br.eta hr5 _) (all_cons (Br.eta hr7 _) (all_cons (Br.eta hr9 _) (all_cons (Br.eta hr11 _) (all_cons (Br.eta hr13 _) (all_cons (Br.eta hr15 _) (all_cons (Br.eta hr17 _) (all_cons (Br.eta hr19 _) all_nil)))))))))))) (fun r20 hr20 => (D.ret (Br.eta hr20 _))))))))))))))))))))))))))))))))))))))))))))
end ref19_FromSpec
namespace ref19_fromStatuses
theorem s3_dd (c0 : Rows) (c1 : Row) (hc0 : Brs c0) : D (fun k => iter (s3 k c0 c1) k ([], 0)) Brs := by
  refine D.made (es := c0) hc0 (fun out i hp hi hl ho => ?_) (fun out i hi => ?_)
  · have hin := iIn_of hp.1 hi
    have hok : ∀ q : Row, rOk 80 (rLen out) (rLen [q]) = true := made_ok hc0 hi hl
    exact (D.tt hi (D.tt hin (D.bnd (ref19_num.dd _) (fun r0 hr0 => (D.bnd (ref19_at.dd _ _ (Nat.le_of_ble_eq_true rfl) (Br.eta hr0 _)) (fun r1 hr1 => (D.bnd (ref19_str.dd _ (Br.str (Brs.at hc0 _) _)) (fun r2 hr2 => (D.bnd (ref19_at.dd _ _ (Nat.le_of_ble_eq_true rfl) (Br.eta hr2 _)) (fun r3 hr3 => (D.bnd (ref19_truth.dd _) (fun r4 hr4 => (D.bnd (ref19_at.dd _ _ (Nat.le_of_ble_eq_true rfl) (Br.eta hr4 _)) (fun r5 hr5 => (D.bnd (ref19_num.dd _) (fun r6 hr6 => (D.bnd (ref19_at.dd _ _ (Nat.le_of_ble_eq_true rfl) (Br.eta hr6 _)) (fun r7 hr7 => (D.bnd (ref19_num.dd _) (fun r8 hr8 => (D.bnd (ref19_at.dd _ _ (Nat.le_of_ble_eq_true rfl) (Br.eta hr8 _)) (fun r9 hr9 => (D.bnd (ref19_truth.dd _) (fun r10 hr10 => (D.bnd (ref19_at.dd _ _ (Nat.le_of_ble_eq_true rfl) (Br.eta hr10 _)) (fun r11 hr11 => (D.bnd (ref19_num.dd _) (fun r12 hr12 => (D.bnd (ref19_at.dd _ _ (Nat.le_of_ble_eq_true rfl) (Br.eta hr12 _)) (fun r13 hr13 => (D.bnd (ref19_object.dd _ (brs_of (Nat.le_of_ble_eq_true rfl) (all_cons (Br.eta hr1 _) (all_cons (Br.eta hr3 _) (all_cons (Br.eta hr5 _) (all_cons (Br.eta hr7 _) (all_cons (Br.eta hr9 _) (all_cons (Br.eta hr11 _) (all_cons (Br.eta hr13 _) all_nil))))))))) (fun r14 hr14 => (D.tt (hok _) (D.ret ⟨_, (Br.eta hr14 _), rfl⟩))))))))))))))))))))))))))))))))))
  · exact D.test (fun e => by rw [hi] at e; cases e) (fun _ => D.ret rfl)
theorem dd (a0 : Rows) (ha0 : Brs a0) : D (fun k => (f k a0).eval) Br := (D.bnd (ref19_fromStatuses.s3_dd _ _ ha0) (fun r0 hr0 => (D.bnd (ref19_list.dd _ hr0) (fun r1 hr1 => (D.ret (Br.eta hr1 _))))))
end ref19_fromStatuses
namespace ref19_fromStatus
theorem dd (a0 : Row) (ha0 : Br a0) : D (fun k => (f k a0).eval) Br := (D.bnd (ref19_num.dd _) (fun r0 hr0 => (D.bnd (ref19_at.dd _ _ (Nat.le_of_ble_eq_true rfl) (Br.eta hr0 _)) (fun r1 hr1 => (D.bnd (ref19_fromStatuses.dd _ (Br.sl ha0 _)) (fun r2 hr2 => (D.bnd (ref19_at.dd _ _ (Nat.le_of_ble_eq_true rfl) (Br.eta hr2 _)) (fun r3 hr3 => (D.bnd (ref19_num.dd _) (fun r4 hr4 => (D.bnd (ref19_at.dd _ _ (Nat.le_of_ble_eq_true rfl) (Br.eta hr4 _)) (fun r5 hr5 => (D.bnd (ref19_str.dd _ (Br.str ha0 _)) (fun r6 hr6 => (D.bnd (ref19_at.dd _ _ (Nat.le_of_ble_eq_true rfl) (Br.eta hr6 _)) (fun r7 hr7 => (D.bnd (ref19_num.dd _) (fun r8 hr8 => (D.bnd (ref19_at.dd _ _ (Nat.le_of_ble_eq_true rfl) (Br.eta hr8 _)) (fun r9 hr9 => (D.bnd (ref19_truth.dd _) (fun r10 hr10 => (D.bnd (ref19_at.dd _ _ (Nat.le_of_ble_eq_true rfl) (Br.eta hr10 _)) (fun r11 hr11 => (D.bnd (ref19_num.dd _) (fun r12 hr12 => (D.bnd (ref19_at.dd _ _ (Nat.le_of_ble_eq_true rfl) (Br.eta hr12 _)) (fun r13 hr13 => (D.bnd (ref19_str.dd _ (Br.str ha0 _)) (fun r14 hr14 => (D.bnd (ref19_at.dd _ _ (Nat.le_of_ble_eq_true rfl) (Br.eta hr14 _)) (fun r15 hr15 => (D.bnd (ref19_num.dd _) (fun r16 hr16 => (D.bnd (ref19_at.dd _ _ (Nat.le_of_ble_eq_true rfl) (Br.eta hr16 _)) (fun r17 hr17 => (D.bnd (ref19_object.dd _ (brs_of (Nat.le_of_ble_eq_true rfl) (all_cons (Br.eta hr1 _) (all_cons (Br.eta hr3 _) (all_cons (Br.eta hr5 _) (all_cons (Br.eta hr7 _) (all_cons (Br.eta hr9 _) (all_cons (Br.eta hr11 _) (all_cons (Br.eta hr13 _) (all_cons (Br.eta hr15 _) (all_cons (Br.eta hr17 _) all_nil))))))))))) (fun r18 hr18 => (D.ret (Br.eta hr18 _))))))))))))))))))))))))))))))))))))))))
end ref19_fromStatus
namespace ref19_FromPod
theorem dd (a0 : Row) (ha0 : Br a0) : D (fun k => (f k a0).eval) Br := (D.bnd (ref19_FromSpec.dd _ (br_etaL ha0 _ _)) (fun r0 hr0 => (D.bnd (ref19_fromStatus.dd _ (br_etaL ha0 _ _)) (fun r1 hr1 => (D.ret (br_rJ (all_cons (br_cons (brc_str (Nat.le_of_ble_eq_true rfl)) (br_cons (brc_str (Br.str ha0 _)) (br_cons (brc_str (Br.str ha0 _)) (br_cons brc_int (br_cons brc_int (br_cons brc_int (br_cons brc_int (br_cons brc_bool (br_cons brc_int (br_cons (brc_slice (Br.sl ha0 _)) (br_cons (brc_slice (Br.sl ha0 _)) (br_cons (brc_slice (Br.sl ha0 _)) (br_cons (brc_slice (Br.sl ha0 _)) br_nil))))))))))))) (all_cons (Br.eta hr0 _) (all_cons (Br.eta hr1 _) all_nil)))))))))
end ref19_FromPod
namespace law19_SmallMeta
theorem s4_dd (c0 : Rows) (c1 : Int) (c2 : Row) (hc0 : Brs c0) (ec1 : c1 = rLen c0) : D (fun k => iter (s4 k c0 c1 c2) k 0) (fun _ => True) := by
  subst ec1
  refine D.looked (es := c0) hc0 _ (fun i hp => ?_)
  unfold s4
  refine D.test (fun hi => ?_) (fun hi => (D.ret trivial))
  have hin := iIn_of hp.1 hi
  exact (D.tt hin (D.test (fun hb => (D.ret trivial)) (fun hb => (D.ret ⟨rfl, hi⟩))))
theorem s10_dd (c0 : Rows) (c1 : Int) (c2 : Row) (hc0 : Brs c0) (ec1 : c1 = rLen c0) : D (fun k => iter (s10 k c0 c1 c2) k 0) (fun _ => True) := by
  subst ec1
  refine D.looked (es := c0) hc0 _ (fun i hp => ?_)
  unfold s10
  refine D.test (fun hi => ?_) (fun hi => (D.ret trivial))
  have hin := iIn_of hp.1 hi
  exact (D.tt hin (D.test (fun hb => (D.ret trivial)) (fun hb => (D.ret ⟨rfl, hi⟩))))
theorem s16_dd (c0 : Rows) (c1 : Int) (c2 : Row) (hc0 : Brs c0) (ec1 : c1 = rLen c0) : D (fun k => iter (s16 k c0 c1 c2) k 0) (fun _ => True) := by
  subst ec1
  refine D.looked (es := c0) hc0 _ (fun i hp => ?_)
  unfold s16
  refine D.test (fun hi => ?_) (fun hi => (D.ret trivial))
  have hin := iIn_of hp.1 hi
  exact (D.tt hin (D.test (fun hb => (D.ret trivial)) (fun hb => (D.ret ⟨rfl, hi⟩))))
theorem s27_dd (c0 : Rows) (c1 : Int) (c2 : Int) (c3 : Rows) (c4 : Int) (hc3 : Brs c3) (ec4 : c4 = rLen c3) : D (fun k => iter (s27 k c0 c1 c2 c3 c4) k 0) (fun _ => True) := by
  subst ec4
  refine D.looked (es := c3) hc3 _ (fun i hp => ?_)
  unfold s27
  refine D.test (fun hi => ?_) (fun hi => (D.ret trivial))
  have hin := iIn_of hp.1 hi
  exact (D.tt hin (D.test (fun hb => (D.ret trivial)) (fun hb => (D.ret ⟨rfl, hi⟩))))
theorem s22_dd (c0 : Rows) (c1 : Int) (hc0 : Brs c0) (ec1 : c1 = rLen c0) : D (fun k => iter (s22 k c0 c1) k 0) (fun _ => True) := by
  subst ec1
  refine D.looked (es := c0) hc0 _ (fun i hp => ?_)
  unfold s22
  refine D.test (fun hi => ?_) (fun hi => (D.ret trivial))
  have hin := iIn_of hp.1 hi
  exact (D.tt hin (D.test (fun hb => (D.ret trivial)) (fun hb => (D.cas (law19_SmallMeta.s27_dd _ _ _ _ _ (Br.sl (Brs.at hc0 _) _) rfl) (fun r0 hr0 => (D.ret trivial)) (fun r1 hr1 => (D.ret ⟨rfl, hi⟩))))))
theorem dd (a0 : Row) (ha0 : Br a0) : D (fun k => (f k a0).eval) (fun _ => True) := (D.test (fun hb => (D.ret trivial)) (fun hb => (D.cas (law19_SmallMeta.s4_dd _ _ _ (Br.sl ha0 _) rfl) (fun r0 hr0 => (D.ret trivial)) (fun r1 hr1 => (D.cas (law19_SmallMeta.s10_dd _ _ _ (Br.sl ha0 _) rfl) (fun r2 hr2 => (D.ret trivial)) (fun r3 hr3 => (D.cas (law19_SmallMeta.s16_dd _ _ _ (Br.sl ha0 _) rfl) (fun r4 hr4 => (D.ret trivial)) (fun r5 hr5 => (D.cas (law19_SmallMeta.s22_dd _ _ (Br.sl ha0 _) rfl) (fun r6 hr6 => (D.ret trivial)) (fun r7 hr7 => (D.ret trivial)))))))))))
end law19_SmallMeta
theorem D.shift {α : Type} {F : Nat → Option α} {p : α → Prop} (h : D (fun k => F (k + 1)) p) : D F p := by
  obtain ⟨v, hv, K, hK⟩ := h
  refine ⟨v, hv, K + 1, fun k hk => ?_⟩
  match k, hk with
  | k + 1, hk => exact hK k (by omega)
theorem getD_etaL {P : Program} (r : Row) : ∀ (l : List Nat) (k j : Nat), (etaL P r k l).getD j .dead = .dead ∨ ∃ t, (etaL P r k l).getD j .dead = etaC P r (k + j) t
  | [], k, j => Or.inl (by simp [etaL])
  | t :: l, k, 0 => Or.inr ⟨t, by simp [etaL]⟩
  | t :: l, k, j + 1 => by
    have := getD_etaL (P := P) r l (k + 1) j
    have e : k + 1 + j = k + (j + 1) := by omega
    rw [e] at this
    simpa [etaL] using this
theorem mem_etaL {P : Program} {r q : Row} {l : List Nat} {k j : Nat} (h : q ∈ rSl (etaL P r k l) j) : q ∈ rSl r (k + j) := by
  rcases getD_etaL (P := P) r l k j with e | ⟨t, e⟩
  · unfold rSl at h; rw [e] at h; cases h
  · unfold rSl at h
    rw [e] at h
    unfold etaC at h
    cases hu : P.underlying t with
    | none => rw [hu] at h; cases h
    | some d =>
      rw [hu] at h
      cases d with
      | slice e => exact h
      | _ => cases h
theorem mem_eta {P : Program} {r q : Row} {t j : Nat} (h : q ∈ rSl (eta P t r) j) : q ∈ rSl r j := by
  have := mem_etaL (k := 0) h
  rwa [Nat.zero_add] at this
theorem size_sl {r q : Row} {j : Nat} (h : q ∈ rSl r j) : SizeOf.sizeOf q < SizeOf.sizeOf r := by
  unfold rSl at h
  split at h
  · rename_i es k e
    rcases getD_mem_or (r := r) j with hm | hm
    · rw [e] at hm
      have h1 := List.sizeOf_lt_of_mem hm
      have h2 := List.sizeOf_lt_of_mem h
      simp only [V.slice.sizeOf_spec] at h1
      omega
    · rw [e] at hm; cases hm
  · cases h
theorem rAt_mem {es : Rows} {i : Int} (h : iIn i (rLen es) = true) : rAt es i ∈ es := by
  have := of_decide_eq_true h
  unfold rAt
  unfold rLen at this
  rw [List.getD_eq_getElem?_getD, List.getElem?_eq_getElem (by omega)]
  exact List.getElem_mem _
namespace ref06_left
theorem all (n : Nat) : ∀ a0 : Row, Br a0 → (∀ q, q ∈ rSl a0 3 → SizeOf.sizeOf q < n) → (∀ q, q ∈ rSl a0 4 → SizeOf.sizeOf q < n) → ∀ a1, D (fun k => (f k a0 a1).eval) (fun _ => True) := by
  induction n using Nat.strongRecOn with
  | _ n ih =>
    intro a0 h0 h3 h4 a1
    refine D.shift ?_
    show D (fun k => (T.bnd (iter (s3 k (f k) (et 68 a0)) k ((iSub .i64 (iSub .i64 a1 (1)) (sLen (rStr a0 2))), (0))) default fun r0 => .bnd (iter (s7 k (f k) (et 68 a0)) k (r0, (0))) default fun r1 => .ret r1).eval) _
    have hb := h0.eta (P := Tryz.prog) 68
    refine D.bnd (q := fun _ => True) (D.loop (fun x => Place (rSl (et 68 a0) 3) x.2) (fun x => (rLen (rSl (et 68 a0) 3) - x.2).toNat) _ (fun x hx => ?_) _ ⟨Int.le_refl _, by unfold rLen; simp⟩) (fun r0 _ => ?_)
    · unfold s3
      refine D.test (fun hi => ?_) (fun hi => D.ret trivial)
      have hi' : iLt x.2 (rLen (rSl (et 68 a0) 3)) = true := by
        unfold bIte at hi; revert hi; cases iLt x.2 (rLen (rSl (et 68 a0) 3)) <;> simp
      have hin := iIn_of hx.1 hi'
      have hm := rAt_mem hin
      have hs := h3 _ (mem_eta hm)
      refine D.tt hin (D.bnd (q := fun _ => True) (ih _ hs _ (Br.eta (Brs.at (Br.sl hb _) _) _) (fun _ hq => size_sl (mem_eta hq)) (fun _ hq => size_sl (mem_eta hq)) _) (fun r _ => D.ret ?_))
      exact hx.next (Br.sl hb _) hi'
    · refine D.bnd (q := fun _ => True) (D.loop (fun x => Place (rSl (et 68 a0) 4) x.2) (fun x => (rLen (rSl (et 68 a0) 4) - x.2).toNat) _ (fun x hx => ?_) _ ⟨Int.le_refl _, by unfold rLen; simp⟩) (fun r1 _ => D.ret trivial)
      unfold s7
      refine D.test (fun hi => ?_) (fun hi => D.ret trivial)
      have hi' : iLt x.2 (rLen (rSl (et 68 a0) 4)) = true := by
        unfold bIte at hi; revert hi; cases iLt x.2 (rLen (rSl (et 68 a0) 4)) <;> simp
      have hin := iIn_of hx.1 hi'
      have hm := rAt_mem hin
      have hs := h4 _ (mem_eta hm)
      refine D.tt hin (D.tt hin (D.bnd (q := fun _ => True) (ih _ hs _ (br_etaL (Brs.at (Br.sl hb _) _) _ _) (fun q hq => size_sl (mem_etaL hq)) (fun q hq => size_sl (mem_etaL hq)) _) (fun r _ => D.ret ?_)))
      exact hx.next (Br.sl hb _) hi'
theorem dd (a0 : Row) (a1 : Int) (ha0 : Br a0) : D (fun k => (f k a0 a1).eval) (fun _ => True) := all (SizeOf.sizeOf a0) a0 ha0 (fun q hq => size_sl hq) (fun q hq => size_sl hq) a1
end ref06_left
namespace ref06_Few
theorem dd (a0 : Row) (a1 : Int) (ha0 : Br a0) : D (fun k => (f k a0 a1).eval) (fun _ => True) := (D.bnd (ref06_left.dd _ _ (Br.eta ha0 _)) (fun r0 hr0 => (D.ret trivial)))
end ref06_Few
namespace law19_SmallPod
theorem dd (a0 : Row) (ha0 : Br a0) : D (fun k => (f k a0).eval) (fun _ => True) := (D.bnd (ref19_FromPod.dd _ (Br.eta ha0 _)) (fun r0 hr0 => (D.bnd (law19_SmallMeta.dd _ (Br.eta ha0 _)) (fun r1 hr1 => (D.opt (fun hb => (ref06_Few.dd _ _ (br_etaL hr0 _ _))) (fun _ => trivial) (fun r2 hr2 => (D.opt (fun hb => (ref06_Few.dd _ _ (br_etaL hr0 _ _))) (fun _ => trivial) (fun r3 hr3 => (D.ret trivial)))))))))
end law19_SmallPod

end Go.Proofs.YthnkchbcinlnnaaGreatDoor.Ev
