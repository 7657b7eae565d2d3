/- Part of a claim: see its row. Conditions: stated at each. -/
import Derived.Test.YthkdpkgkejdcgaaZEQ0
namespace Go.Proofs.Ythkdpkgkejdcgaa.Q
open Go.RowKit Go.Proofs.YthkdpkgkejdcgaaW.PrintWords Go.Proofs.YthkdpkgkejdcgaaW.PrintLast Go.Proofs.YthkdpkgkejdcgaaW.PrintMore Go.Proofs.Ythkdpkgkejdcgaa.Sh
attribute [local go_sem] max2_int min2_int max_two min_two max_three min_three max_four min_four
set_option linter.unusedVariables false
set_option linter.unusedSimpArgs false
def deletion_Finish_1.f (a0 : ByteArray) (a1 : ByteArray) : Option (Bool) := some (a0.toList == a1.toList)
set_option maxHeartbeats 8000000 in
set_option maxRecDepth 100000 in
theorem deletion_Finish_1.calls (a0 : ByteArray) (g1_ : Nat) (a1 : ByteArray) (r : Bool) (w : World) (hbx1 : w.heap[g1_]? = some (.cells #[.string a1] 9 (0, 0))) (h : deletion_Finish_1.f a0 a1 = some r) :
  Calls Try.prog 24 #[.string a0, .pointer (some ⟨g1_, 0, none⟩)] w fun e w' => e = .returned (.bool r) ∧ Below w.heap.size w w' := by
 have BK286 := s_a hbx1
 clear hbx1
 have HB := s_a (Below.refl w.heap.size w)
 have H : (some (a0.toList == a1.toList)) = some r := h
 clear h
 obtain rfl := Option.some.inj H
 have hcz3_0 : w.cell? ⟨g1_, 0, none⟩ = some (.string a1) := (blk_cell BK286.out 0).trans rfl
 go_enter Try.func24, Try.ntmps24
 go_wp2
 go_ret
 exact ⟨by first | rfl | (simp [errW_none, errW_some] <;> rfl) | (simp [*, errW_none, errW_some] <;> rfl), by exact s_b HB.out⟩
end Go.Proofs.Ythkdpkgkejdcgaa.Q
