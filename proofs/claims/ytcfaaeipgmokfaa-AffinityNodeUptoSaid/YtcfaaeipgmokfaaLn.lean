/- The plain law AffinityNode. Conditions: stated at each. -/
import Derived.Test.YtcfaaeipgmokfaaPf
import Derived.Test.YtcfaaeipgmokfaaPm
import Derived.Test.YtcfaaeipgmokfaaPe
namespace Go.Proofs.Ytcfaaeipgmokfaa.Ev
open Go Go.RowKit
set_option linter.unusedVariables false
set_option maxRecDepth 100000
theorem sEq_self (s : ByteArray) : sEq s s = true := by unfold sEq; exact beq_self_eq_true _
theorem bEq_self (b : Bool) : bEq b b = true := by cases b <;> rfl
theorem law36_AffinityNode.true_ (p n : Row) (s : ByteArray) (hp : Br p) (hn : Br n) (hs : s.size ≤ 1048576) : D (fun k => (law36_AffinityNode.f k p n s).eval) (fun u => u = true) := by
  unfold law36_AffinityNode.f
  refine D.bnd (law36_SmallPod.dd _ (hp.eta _)) (fun r0 _ => ?_)
  refine D.opt (q := fun _ => True) (fun _ => law36_SmallNode.dd _ (hn.eta _)) (fun _ => trivial) (fun r1 _ => ?_)
  refine D.test (fun _ => D.bnd law36_lives.dd (fun r2 h2 => D.ret h2)) (fun _ => ?_)
  refine D.bnd (D.both (fun k => domain_eq k (et 46 n) s) (affinity_Domain.dd _ _ (hn.eta _))) (fun r3 h3 => ?_)
  refine D.bnd h3.2 (fun r4 h4 => ?_)
  subst h4
  have e : bIte (sEq r4.1 r4.1) (bEq r4.2 r4.2) false = true := by rw [sEq_self, bEq_self]; rfl
  rw [e]
  refine D.opt (q := fun v => D (fun k => (ref36_NodeFits.f k (eo 35 p 13) (et 46 n)).eval) (fun u => u = v)) (fun _ => (D.both (fun k => nodeFits_eq k (eo 35 p 13) (et 46 n)) (affinity_NodeFits.dd _ _ (br_etaL hp _ _) (hn.eta _))).mono (fun v hv => hv.2)) (fun h => by cases h) (fun r5 h5 => ?_)
  refine D.opt (fun _ => h5) (fun h => by cases h) (fun r6 h6 => ?_)
  subst h6
  have e2 : bIte true (bEq r6 r6) false = true := by rw [bEq_self]; rfl
  rw [e2]
  refine D.opt (fun _ => law36_lives.dd) (fun h => by cases h) (fun r7 h7 => ?_)
  subst h7
  exact D.ret rfl
end Go.Proofs.Ytcfaaeipgmokfaa.Ev
