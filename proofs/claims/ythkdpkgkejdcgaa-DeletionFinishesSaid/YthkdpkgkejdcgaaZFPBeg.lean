/- Part of a claim: see its row. Conditions: stated at each. -/
import Derived.Test.YthkdpkgkejdcgaaZFQ7
import Derived.Test.YthkdpkgkejdcgaaZFQ10
import Derived.Test.YthkdpkgkejdcgaaZFPClo
namespace Go.Proofs.Ythkdpkgkejdcgaa.Pure
open Go.RowKit Go.Proofs.Ythkdpkgkejdcgaa.Q Go.Proofs.Ythkdpkgkejdcgaa.Opn Go.Proofs.YthkdpkgkejdcgaaW.PrintWords Go.Proofs.YthkdpkgkejdcgaaW.PrintLast Go.Proofs.YthkdpkgkejdcgaaW.PrintMore Go.Proofs.Ythkdpkgkejdcgaa.Pur
set_option linter.unusedVariables false
set_option linter.unusedSimpArgs false
theorem bite {β : Type} {c : Prop} [Decidable c] (x y : Option β) : (if c then x else y) = ((some (decide c)).bind fun t => if t = true then x else y) := by
  by_cases h : c <;> simp [h]
def hasS (l : List ByteArray) (a : ByteArray) : Bool := l.any (fun x => decide (a.toList = x.toList))
theorem contains_ev (l : List ByteArray) (a : ByteArray) (hl : l.length ≤ 4611686018427387904) : Ev (fun k => slices_Contains_string_string.f k l a) (hasS l a) := by
  unfold slices_Contains_string_string.f slices_Index_string_string.f hasS
  refine Ev.bind (firstOf_ev ByteArray.empty l (fun x => decide (a.toList = x.toList)) (fun i _ => i) (-1) (fun k i => slices_Index_string_string.l0 k l a (l.length : Int) i) (fun _ x => some (decide (a.toList = x.toList))) hl (fun k j hj => ?_) (fun k => ?_) (fun y _ => Ev.now _)) ?_
  · have h1 : (j : Int) < (l.length : Int) := by omega
    simp only [slices_Index_string_string.l0, if_pos h1, if_pos (show (0 : Int) ≤ (j : Int) by omega), rdS hj]
    exact bite _ _
  · simp only [slices_Index_string_string.l0, Int.lt_irrefl, if_false]
  · rw [firstOf_idx]
    exact Ev.eq (Ev.now _) (idx_ge _ _ _ (by omega))
def zeroO : S33 := ⟨⟨⟨#[]⟩, ⟨#[]⟩, ⟨#[]⟩, 0, 0, 0, 0, false, 0, [], [], [], []⟩, ⟨0, 0, ⟨#[]⟩, [], []⟩, ⟨0, 0, ⟨#[]⟩, [], []⟩⟩
def RT (p : S33 × Int) := (p.1.f0.f0, p.1.f0.f1, p.1.f0.f2, p.1.f0.f3, p.1.f0.f4, p.1.f0.f5, p.1.f0.f6, p.1.f0.f7, p.1.f0.f8, p.1.f0.f9, p.1.f0.f10, p.1.f0.f11, p.1.f0.f12, p.1.f1.f0, p.1.f1.f1, p.1.f1.f2, p.1.f1.f3, p.1.f1.f4, p.1.f2.f0, p.1.f2.f1, p.1.f2.f2, p.1.f2.f3, p.1.f2.f4, p.2)
end Go.Proofs.Ythkdpkgkejdcgaa.Pure
