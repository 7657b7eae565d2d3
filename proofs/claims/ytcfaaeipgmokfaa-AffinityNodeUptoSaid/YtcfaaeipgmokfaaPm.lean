/- That printed functions keep their answers. Conditions: stated at each. -/
import Derived.Test.YtcfaaeipgmokfaaPl
import Derived.Test.YtcfaaeipgmokfaaE0
namespace Go.Proofs.Ytcfaaeipgmokfaa.Ev
open Go Go.RowKit
set_option linter.unusedVariables false
set_option maxRecDepth 100000
namespace label_Get
theorem s2_up {k m : Nat} (h : k ≤ m) (c0 : ByteArray) (c1 : Rows) (c2 : Int) (x : Int) : Le (s2 k c0 c1 c2 x) (s2 m c0 c1 c2 x) := (Le.test (Le.test (Le.test (Le.refl _) (Le.refl _)) (Le.refl _)) (Le.refl _))
theorem up {k m : Nat} (h : k ≤ m) (a0 : Rows) (a1 : ByteArray) : Le (f k a0 a1) (f m a0 a1) := (Le.cas (Le.iter (fun x => label_Get.s2_up h _ _ _ x) h _) (fun r0 => (Le.refl _)) (fun r1 => (Le.refl _)))
end label_Get
namespace affinity_Domain
theorem up {k m : Nat} (h : k ≤ m) (a0 : Row) (a1 : ByteArray) : Le (f k a0 a1) (f m a0 a1) := (Le.bnd (label_Get.up h _ _) (fun r0 => (Le.refl _)))
end affinity_Domain
namespace slices_Index_string_string
theorem s2_up {k m : Nat} (h : k ≤ m) (c0 : Rows) (c1 : ByteArray) (c2 : Int) (x : Int) : Le (s2 k c0 c1 c2 x) (s2 m c0 c1 c2 x) := (Le.test (Le.test (Le.test (Le.refl _) (Le.refl _)) (Le.refl _)) (Le.refl _))
theorem up {k m : Nat} (h : k ≤ m) (a0 : Rows) (a1 : ByteArray) : Le (f k a0 a1) (f m a0 a1) := (Le.cas (Le.iter (fun x => slices_Index_string_string.s2_up h _ _ _ x) h _) (fun r0 => (Le.refl _)) (fun r1 => (Le.refl _)))
end slices_Index_string_string
namespace slices_Contains_string_string
theorem up {k m : Nat} (h : k ≤ m) (a0 : Rows) (a1 : ByteArray) : Le (f k a0 a1) (f m a0 a1) := (Le.bnd (slices_Index_string_string.up h _ _) (fun r0 => (Le.refl _)))
end slices_Contains_string_string
namespace label_holds
theorem up {k m : Nat} (h : k ≤ m) (a0 : Row) (a1 : Rows) : Le (f k a0 a1) (f m a0 a1) := (Le.bnd (label_Get.up h _ _) (fun r0 => (Le.test (Le.opt (slices_Contains_string_string.up h _ _) (fun r1 => (Le.refl _))) (Le.test (Le.opt (slices_Contains_string_string.up h _ _) (fun r2 => (Le.refl _))) (Le.test (Le.refl _) (Le.test (Le.refl _) (Le.refl _)))))))
end label_holds
namespace label_Matches
theorem s2_up {k m : Nat} (h : k ≤ m) (c0 : Rows) (c1 : Rows) (c2 : Int) (x : Int) : Le (s2 k c0 c1 c2 x) (s2 m c0 c1 c2 x) := (Le.test (Le.test (Le.bnd (label_holds.up h _ _) (fun r0 => (Le.test (Le.refl _) (Le.refl _)))) (Le.refl _)) (Le.refl _))
theorem up {k m : Nat} (h : k ≤ m) (a0 : Rows) (a1 : Rows) : Le (f k a0 a1) (f m a0 a1) := (Le.cas (Le.iter (fun x => label_Matches.s2_up h _ _ _ x) h _) (fun r0 => (Le.refl _)) (fun r1 => (Le.refl _)))
end label_Matches
namespace affinity_NodeFits
theorem s4_up {k m : Nat} (h : k ≤ m) (c0 : Rows) (c1 : Int) (c2 : Row) (x : Int) : Le (s4 k c0 c1 c2 x) (s4 m c0 c1 c2 x) := (Le.test (Le.test (Le.opt (label_Matches.up h _ _) (fun r0 => (Le.test (Le.refl _) (Le.refl _)))) (Le.refl _)) (Le.refl _))
theorem up {k m : Nat} (h : k ≤ m) (a0 : Row) (a1 : Row) : Le (f k a0 a1) (f m a0 a1) := (Le.bnd (label_Matches.up h _ _) (fun r0 => (Le.test (Le.refl _) (Le.cas (Le.iter (fun x => affinity_NodeFits.s4_up h _ _ _ x) h _) (fun r1 => (Le.refl _)) (fun r2 => (Le.refl _))))))
end affinity_NodeFits
namespace meta_Key
theorem up {k m : Nat} (h : k ≤ m) (a0 : ByteArray) (a1 : ByteArray) (a2 : ByteArray) : Le (f k a0 a1 a2) (f m a0 a1 a2) := (Le.test (Le.test (Le.test (Le.test (Le.refl _) (Le.refl _)) (Le.refl _)) (Le.refl _)) (Le.refl _))
end meta_Key
namespace meta_KeyOf
theorem up {k m : Nat} (h : k ≤ m) (a0 : Row) : Le (f k a0) (f m a0) := (Le.bnd (meta_Key.up h _ _ _) (fun r0 => (Le.refl _)))
end meta_KeyOf
namespace affinity_others
theorem s7_up {k m : Nat} (h : k ≤ m) (c0 : Rows) (c1 : Rows) (c2 : Int) (c3 : Int) (c4 : Rows) (c5 : Int) (c6 : Row) (c7 : Row) (c8 : Row) (x : Int) : Le (s7 k c0 c1 c2 c3 c4 c5 c6 c7 c8 x) (s7 m c0 c1 c2 c3 c4 c5 c6 c7 c8 x) := (Le.test (Le.test (Le.test (Le.test (Le.refl _) (Le.refl _)) (Le.refl _)) (Le.refl _)) (Le.refl _))
theorem s3_up {k m : Nat} (h : k ≤ m) (c0 : Rows) (c1 : Int) (c2 : Row) (c3 : Row) (x : (Rows × Int)) : Le (s3 k c0 c1 c2 c3 x) (s3 m c0 c1 c2 c3 x) := (Le.test (Le.test (Le.bnd (meta_KeyOf.up h _) (fun r0 => (Le.bnd (meta_KeyOf.up h _) (fun r1 => (Le.test (Le.refl _) (Le.bnd (Le.iter (fun x => affinity_others.s7_up h _ _ _ _ _ _ _ _ _ x) h _) (fun r2 => (Le.refl _)))))))) (Le.refl _)) (Le.refl _))
theorem up {k m : Nat} (h : k ≤ m) (a0 : Row) (a1 : Row) : Le (f k a0 a1) (f m a0 a1) := (Le.bnd (Le.iter (fun x => affinity_others.s3_up h _ _ _ _ x) h _) (fun r0 => (Le.refl _)))
end affinity_others
namespace affinity_selects
theorem up {k m : Nat} (h : k ≤ m) (a0 : Row) (a1 : ByteArray) (a2 : Row) : Le (f k a0 a1 a2) (f m a0 a1 a2) := (Le.opt (label_Matches.up h _ _) (fun r0 => (Le.refl _)))
end affinity_selects
namespace affinity_together
theorem up {k m : Nat} (h : k ≤ m) (a0 : Row) (a1 : Row) (a2 : ByteArray) : Le (f k a0 a1 a2) (f m a0 a1 a2) := (Le.bnd (affinity_Domain.up h _ _) (fun r0 => (Le.bnd (affinity_Domain.up h _ _) (fun r1 => (Le.refl _)))))
end affinity_together
namespace affinity_near
theorem s2_up {k m : Nat} (h : k ≤ m) (c0 : Rows) (c1 : Int) (c2 : Row) (c3 : Row) (c4 : Row) (x : (Bool × Bool × Int)) : Le (s2 k c0 c1 c2 c3 c4 x) (s2 m c0 c1 c2 c3 c4 x) := (Le.test (Le.test (Le.bnd (affinity_selects.up h _ _ _) (fun r0 => (Le.test (Le.opt (affinity_together.up h _ _ _) (fun r1 => (Le.refl _))) (Le.refl _)))) (Le.refl _)) (Le.refl _))
theorem up {k m : Nat} (h : k ≤ m) (a0 : Row) (a1 : Row) (a2 : Row) (a3 : Rows) : Le (f k a0 a1 a2 a3) (f m a0 a1 a2 a3) := (Le.bnd (Le.iter (fun x => affinity_near.s2_up h _ _ _ _ _ x) h _) (fun r0 => (Le.refl _)))
end affinity_near
namespace affinity_PodFits
theorem s4_up {k m : Nat} (h : k ≤ m) (c0 : Rows) (c1 : Rows) (c2 : Int) (c3 : Row) (c4 : Row) (x : (Int × Int)) : Le (s4 k c0 c1 c2 c3 c4 x) (s4 m c0 c1 c2 c3 c4 x) := (Le.test (Le.test (Le.test (Le.refl _) (Le.bnd (affinity_Domain.up h _ _) (fun r0 => (Le.bnd (affinity_near.up h _ _ _ _) (fun r1 => (Le.test (Le.refl _) (Le.test (Le.test (Le.refl _) (Le.opt (label_Matches.up h _ _) (fun r2 => (Le.test (Le.refl _) (Le.refl _))))) (Le.test (Le.refl _) (Le.opt (label_Matches.up h _ _) (fun r3 => (Le.test (Le.refl _) (Le.refl _)))))))))))) (Le.refl _)) (Le.refl _))
theorem s20_up {k m : Nat} (h : k ≤ m) (c0 : Rows) (c1 : Int) (c2 : Int) (c3 : Rows) (c4 : Int) (c5 : Row) (c6 : Row) (c7 : Row) (x : (Int × Int)) : Le (s20 k c0 c1 c2 c3 c4 c5 c6 c7 x) (s20 m c0 c1 c2 c3 c4 c5 c6 c7 x) := (Le.test (Le.test (Le.opt (affinity_selects.up h _ _ _) (fun r0 => (Le.opt (affinity_together.up h _ _ _) (fun r1 => (Le.test (Le.refl _) (Le.refl _)))))) (Le.refl _)) (Le.refl _))
theorem s17_up {k m : Nat} (h : k ≤ m) (c0 : Rows) (c1 : Int) (c2 : Row) (c3 : Row) (x : (Int × Int)) : Le (s17 k c0 c1 c2 c3 x) (s17 m c0 c1 c2 c3 x) := (Le.test (Le.test (Le.bnd (Le.iter (fun x => affinity_PodFits.s20_up h _ _ _ _ _ _ _ _ x) h _) (fun r0 => (Le.refl _))) (Le.refl _)) (Le.refl _))
theorem up {k m : Nat} (h : k ≤ m) (a0 : Row) (a1 : Row) (a2 : Row) : Le (f k a0 a1 a2) (f m a0 a1 a2) := (Le.bnd (affinity_others.up h _ _) (fun r0 => (Le.cas (Le.iter (fun x => affinity_PodFits.s4_up h _ _ _ _ _ x) h _) (fun r1 => (Le.refl _)) (fun r2 => (Le.bnd (Le.iter (fun x => affinity_PodFits.s17_up h _ _ _ _ x) h _) (fun r3 => (Le.refl _)))))))
end affinity_PodFits
namespace affinity_limit
theorem up {k m : Nat} (h : k ≤ m) (a0 : Int) : Le (f k a0) (f m a0) := (Le.refl _)
end affinity_limit
namespace affinity_Preference
theorem s4_up {k m : Nat} (h : k ≤ m) (c0 : Rows) (c1 : Rows) (c2 : Int) (c3 : Row) (c4 : Row) (x : (Int × Int)) : Le (s4 k c0 c1 c2 c3 c4 x) (s4 m c0 c1 c2 c3 c4 x) := (Le.test (Le.test (Le.opt (label_Matches.up h _ _) (fun r0 => (Le.test (Le.bnd (affinity_limit.up h _) (fun r1 => (Le.refl _))) (Le.refl _)))) (Le.refl _)) (Le.refl _))
theorem s10_up {k m : Nat} (h : k ≤ m) (c0 : Rows) (c1 : Rows) (c2 : Int) (c3 : Row) (c4 : Row) (x : (Int × Int)) : Le (s10 k c0 c1 c2 c3 c4 x) (s10 m c0 c1 c2 c3 c4 x) := (Le.test (Le.test (Le.bnd (affinity_near.up h _ _ _ _) (fun r0 => (Le.test (Le.refl _) (Le.test (Le.bnd (affinity_limit.up h _) (fun r1 => (Le.refl _))) (Le.bnd (affinity_limit.up h _) (fun r2 => (Le.refl _))))))) (Le.refl _)) (Le.refl _))
theorem up {k m : Nat} (h : k ≤ m) (a0 : Row) (a1 : Row) (a2 : Row) : Le (f k a0 a1 a2) (f m a0 a1 a2) := (Le.bnd (affinity_others.up h _ _) (fun r0 => (Le.bnd (Le.iter (fun x => affinity_Preference.s4_up h _ _ _ _ _ x) h _) (fun r1 => (Le.bnd (Le.iter (fun x => affinity_Preference.s10_up h _ _ _ _ _ x) h _) (fun r2 => (Le.bnd (affinity_limit.up h _) (fun r3 => (Le.refl _)))))))))
end affinity_Preference
namespace law36_node
theorem up {k m : Nat} (h : k ≤ m) (a0 : ByteArray) (a1 : ByteArray) : Le (f k a0 a1) (f m a0 a1) := (Le.refl _)
end law36_node
namespace law36_pod
theorem up {k m : Nat} (h : k ≤ m) (a0 : ByteArray) (a1 : ByteArray) (a2 : ByteArray) : Le (f k a0 a1 a2) (f m a0 a1 a2) := (Le.refl _)
end law36_pod
namespace law36_term
theorem up {k m : Nat} (h : k ≤ m) (a0 : ByteArray) (a1 : Bool) : Le (f k a0 a1) (f m a0 a1) := (Le.refl _)
end law36_term
namespace law36_lives
theorem up {k m : Nat} (h : k ≤ m)  : Le (f k ) (f m ) := (Le.bnd (law36_node.up h _ _) (fun r0 => (Le.bnd (law36_node.up h _ _) (fun r1 => (Le.bnd (law36_pod.up h _ _ _) (fun r2 => (Le.bnd (law36_pod.up h _ _ _) (fun r3 => (Le.bnd (law36_term.up h _ _) (fun r4 => (Le.bnd (law36_pod.up h _ _ _) (fun r5 => (Le.bnd (law36_term.up h _ _) (fun r6 => (Le.bnd (law36_pod.up h _ _ _) (fun r7 => (Le.bnd (law36_term.up h _ _) (fun r8 => (Le.bnd (law36_term.up h _ _) (fun r9 => (Le.test (Le.bnd (affinity_Domain.up h _ _) (fun r10 => (Le.test (Le.bnd (affinity_PodFits.up h _ _ _) (fun r11 => (Le.test (Le.opt (affinity_PodFits.up h _ _ _) (fun r12 => (Le.test (Le.opt (affinity_PodFits.up h _ _ _) (fun r13 => (Le.test (Le.opt (affinity_PodFits.up h _ _ _) (fun r14 => (Le.test (Le.opt (affinity_PodFits.up h _ _ _) (fun r15 => (Le.test (Le.opt (affinity_Preference.up h _ _ _) (fun r16 => (Le.test (Le.opt (affinity_NodeFits.up h _ _) (fun r17 => (Le.refl _))) (Le.refl _)))) (Le.refl _)))) (Le.refl _)))) (Le.refl _)))) (Le.refl _)))) (Le.refl _)))) (Le.refl _)))) (Le.refl _))))))))))))))))))))))
end law36_lives

theorem law36_lives.at60 : (law36_lives.f 60).eval = some true := by kernel_rfl
theorem law36_lives.dd : D (fun k => (law36_lives.f k).eval) (fun u => u = true) := D.of_up (fun h => law36_lives.up h) law36_lives.at60
end Go.Proofs.Ytcfaaeipgmokfaa.Ev
