/-
  No cell of these rows narrows 'for every input' (looked for: loops, veiled, ifaces, maps, wideKeys, modest, calm, conditions, laid).
  DERIVED. THE GIVEN ROWS OF THIS SEAT. 5 by the template 'for every input the law returns true; each argument reads behind the call as it read before'; 0 by the template 'total and deterministic' (their statements: YtcfaaeipgmokfaaTotals.lean).
  GIVEN WITH THE SEED: the statements are not yours to turn. If you find one false, say at which input.
  Laid BY PROGRAM, IN A SANDBOX (cutbox-rows.mjs): the forced cells as the released guide's own fill.sh prints them over the translation 40d48083103e324f… (all of the seat's roots in one cut). By AI agents, Wed Nov 11 2026. No macro, syntax, notation, axiom, sorry.
-/
import Derived.Test.YtcfaaeipgmokfaaChecked
import GoSem.Claim
import GoSem.ClaimJoined
import GoSem.ClaimMapViews
import Derived.JoinedTies
import Derived.KernelRfl
namespace Go.Proofs.Ytcfaaeipgmokfaa
/- THE CELL 'sum', in the pinned program and in every row, IS THE sha256 OF THE DUMP (.gsa) THAT YtcfaaeipgmokfaaProg.lean LOADS. Nothing in Lean hashes anything: it is a label: what it is worth is what the hold of that sum in a sandbox is worth. -/
noncomputable def Try.pinned : Pinned := { name := "ytcfaaeipgmokfaa", sum := "40d48083103e324f611c16ac304441391cca3b36d1ab1c7ccfa418f250168c4c", checked := Try.checked }
namespace Rows
def none {H : Type} : Left H := { results := [], args := [] }

/-- 'orchestratorlaw36.AffinityNode': WHATEVER THE INPUT: true; the input reads as it did. -/
def affinityNodeSpec : ChangeSpec := { name := "affinityNode", fn := fun _ => fun
  | [d1, d2, d3] => { results := [.lit (.bool true)], args := [d1, d2, d3] }
  | _ => none }
def affinityNodeRow : OpenClaim := { program := "ytcfaaeipgmokfaa", sum := "40d48083103e324f611c16ac304441391cca3b36d1ab1c7ccfa418f250168c4c", func := "orchestrator/orchestratorlaw36.AffinityNode", spec := "affinityNode", recurses := true, apart := false }
def AffinityNodeSaid : Prop := affinityNodeRow.holds Try.pinned (OpenSpec.ofChange affinityNodeSpec)

/-- ITS FALSE NEIGHBOUR: 'it returns false'. Refute it at one input. -/
def affinityNodeWrong : ChangeSpec := { name := "affinityNode", fn := fun _ => fun
  | [d1, d2, d3] => { results := [.lit (.bool false)], args := [d1, d2, d3] }
  | _ => none }
def AffinityNodeWrongFalsely : Prop := affinityNodeRow.holds Try.pinned (OpenSpec.ofChange affinityNodeWrong)

/-- 'orchestratorlaw36.AffinityPods': WHATEVER THE INPUT: true; the input reads as it did. -/
def affinityPodsSpec : ChangeSpec := { name := "affinityPods", fn := fun _ => fun
  | [d1, d2, d3] => { results := [.lit (.bool true)], args := [d1, d2, d3] }
  | _ => none }
def affinityPodsRow : OpenClaim := { program := "ytcfaaeipgmokfaa", sum := "40d48083103e324f611c16ac304441391cca3b36d1ab1c7ccfa418f250168c4c", func := "orchestrator/orchestratorlaw36.AffinityPods", spec := "affinityPods", recurses := true, apart := false }
def AffinityPodsSaid : Prop := affinityPodsRow.holds Try.pinned (OpenSpec.ofChange affinityPodsSpec)

/-- ITS FALSE NEIGHBOUR: 'it returns false'. Refute it at one input. -/
def affinityPodsWrong : ChangeSpec := { name := "affinityPods", fn := fun _ => fun
  | [d1, d2, d3] => { results := [.lit (.bool false)], args := [d1, d2, d3] }
  | _ => none }
def AffinityPodsWrongFalsely : Prop := affinityPodsRow.holds Try.pinned (OpenSpec.ofChange affinityPodsWrong)

/-- 'orchestratorlaw36.AffinitySymmetry': WHATEVER THE INPUT: true; the input reads as it did. -/
def affinitySymmetrySpec : ChangeSpec := { name := "affinitySymmetry", fn := fun _ => fun
  | [d1, d2, d3] => { results := [.lit (.bool true)], args := [d1, d2, d3] }
  | _ => none }
def affinitySymmetryRow : OpenClaim := { program := "ytcfaaeipgmokfaa", sum := "40d48083103e324f611c16ac304441391cca3b36d1ab1c7ccfa418f250168c4c", func := "orchestrator/orchestratorlaw36.AffinitySymmetry", spec := "affinitySymmetry", recurses := true, apart := false }
def AffinitySymmetrySaid : Prop := affinitySymmetryRow.holds Try.pinned (OpenSpec.ofChange affinitySymmetrySpec)

/-- ITS FALSE NEIGHBOUR: 'it returns false'. Refute it at one input. -/
def affinitySymmetryWrong : ChangeSpec := { name := "affinitySymmetry", fn := fun _ => fun
  | [d1, d2, d3] => { results := [.lit (.bool false)], args := [d1, d2, d3] }
  | _ => none }
def AffinitySymmetryWrongFalsely : Prop := affinitySymmetryRow.holds Try.pinned (OpenSpec.ofChange affinitySymmetryWrong)

/-- 'orchestratorlaw36.AffinityFree': WHATEVER THE INPUT: true; the input reads as it did. -/
def affinityFreeSpec : ChangeSpec := { name := "affinityFree", fn := fun _ => fun
  | [d1, d2, d3] => { results := [.lit (.bool true)], args := [d1, d2, d3] }
  | _ => none }
def affinityFreeRow : OpenClaim := { program := "ytcfaaeipgmokfaa", sum := "40d48083103e324f611c16ac304441391cca3b36d1ab1c7ccfa418f250168c4c", func := "orchestrator/orchestratorlaw36.AffinityFree", spec := "affinityFree", recurses := true, apart := false }
def AffinityFreeSaid : Prop := affinityFreeRow.holds Try.pinned (OpenSpec.ofChange affinityFreeSpec)

/-- ITS FALSE NEIGHBOUR: 'it returns false'. Refute it at one input. -/
def affinityFreeWrong : ChangeSpec := { name := "affinityFree", fn := fun _ => fun
  | [d1, d2, d3] => { results := [.lit (.bool false)], args := [d1, d2, d3] }
  | _ => none }
def AffinityFreeWrongFalsely : Prop := affinityFreeRow.holds Try.pinned (OpenSpec.ofChange affinityFreeWrong)

/-- 'orchestratorlaw36.AffinityTerms': WHATEVER THE INPUT: true; the input reads as it did. -/
def affinityTermsSpec : ChangeSpec := { name := "affinityTerms", fn := fun _ => fun
  | [d1, d2, d3, d4] => { results := [.lit (.bool true)], args := [d1, d2, d3, d4] }
  | _ => none }
def affinityTermsRow : OpenClaim := { program := "ytcfaaeipgmokfaa", sum := "40d48083103e324f611c16ac304441391cca3b36d1ab1c7ccfa418f250168c4c", func := "orchestrator/orchestratorlaw36.AffinityTerms", spec := "affinityTerms", recurses := true, apart := false }
def AffinityTermsSaid : Prop := affinityTermsRow.holds Try.pinned (OpenSpec.ofChange affinityTermsSpec)

/-- ITS FALSE NEIGHBOUR: 'it returns false'. Refute it at one input. -/
def affinityTermsWrong : ChangeSpec := { name := "affinityTerms", fn := fun _ => fun
  | [d1, d2, d3, d4] => { results := [.lit (.bool false)], args := [d1, d2, d3, d4] }
  | _ => none }
def AffinityTermsWrongFalsely : Prop := affinityTermsRow.holds Try.pinned (OpenSpec.ofChange affinityTermsWrong)

/- THE SECOND FORM. 'bulk': how many values and letters a reading holds, each counted each time it is reached (what is shared counts as often as it is met; a slice's spare places count too). A statement '..UptoSaid' is the law's where the arguments, and the package variables that the reading takes, are together of bulk at most 1048576: NARROWER than '..Said'. Prove '..Said' where nothing that the law and all that it calls make is longer than what came in: it says more and counts as full. Else prove '..UptoSaid'. A law counts once. -/
mutual
def uptoBulk {H : Type} : DataW H → Nat
  | .lit (.string bytes) => bytes.length + 1
  | .lit _ => 1
  | .nil => 1
  | .ptr d => uptoBulk d + 1
  | .slice elems spare => uptoBulkAll elems + uptoBulkAll spare + 1
  | .agg parts => uptoBulkAll parts + 1
  | .iface _ d => uptoBulk d + 1
  | .map entries => uptoBulkEntries entries + 1
  | .held _ => 1
def uptoBulkAll {H : Type} : List (DataW H) → Nat
  | [] => 0
  | d :: r => uptoBulk d + uptoBulkAll r
def uptoBulkEntries {H : Type} : List (Lit × DataW H) → Nat
  | [] => 0
  | x :: r => uptoBulkEntry x + uptoBulkEntries r
def uptoBulkEntry {H : Type} : Lit × DataW H → Nat
  | (.string bytes, d) => bytes.length + uptoBulk d + 1
  | (_, d) => uptoBulk d + 1
 end
def uptoSmall : (H : Type) → List (DataW H) → Bool := fun _ ds => decide (uptoBulkAll ds ≤ 1048576)
def OpenSpec.upto (s : _root_.Go.ChangeSpec) : _root_.Go.OpenSpec := { _root_.Go.OpenSpec.ofChange s with cond := some uptoSmall }

/-- 'orchestratorlaw36.AffinityNode', WHERE WHAT IT READS IS OF BULK AT MOST 1048576: true; the input reads as it did. -/
def affinityNodeUptoRow : OpenClaim := { program := "ytcfaaeipgmokfaa", sum := "40d48083103e324f611c16ac304441391cca3b36d1ab1c7ccfa418f250168c4c", func := "orchestrator/orchestratorlaw36.AffinityNode", spec := "affinityNode", recurses := true, apart := false, narrowed := true }
def AffinityNodeUptoSaid : Prop := affinityNodeUptoRow.holds Try.pinned (OpenSpec.upto affinityNodeSpec)

/-- 'orchestratorlaw36.AffinityPods', WHERE WHAT IT READS IS OF BULK AT MOST 1048576: true; the input reads as it did. -/
def affinityPodsUptoRow : OpenClaim := { program := "ytcfaaeipgmokfaa", sum := "40d48083103e324f611c16ac304441391cca3b36d1ab1c7ccfa418f250168c4c", func := "orchestrator/orchestratorlaw36.AffinityPods", spec := "affinityPods", recurses := true, apart := false, narrowed := true }
def AffinityPodsUptoSaid : Prop := affinityPodsUptoRow.holds Try.pinned (OpenSpec.upto affinityPodsSpec)

/-- 'orchestratorlaw36.AffinitySymmetry', WHERE WHAT IT READS IS OF BULK AT MOST 1048576: true; the input reads as it did. -/
def affinitySymmetryUptoRow : OpenClaim := { program := "ytcfaaeipgmokfaa", sum := "40d48083103e324f611c16ac304441391cca3b36d1ab1c7ccfa418f250168c4c", func := "orchestrator/orchestratorlaw36.AffinitySymmetry", spec := "affinitySymmetry", recurses := true, apart := false, narrowed := true }
def AffinitySymmetryUptoSaid : Prop := affinitySymmetryUptoRow.holds Try.pinned (OpenSpec.upto affinitySymmetrySpec)

/-- 'orchestratorlaw36.AffinityFree', WHERE WHAT IT READS IS OF BULK AT MOST 1048576: true; the input reads as it did. -/
def affinityFreeUptoRow : OpenClaim := { program := "ytcfaaeipgmokfaa", sum := "40d48083103e324f611c16ac304441391cca3b36d1ab1c7ccfa418f250168c4c", func := "orchestrator/orchestratorlaw36.AffinityFree", spec := "affinityFree", recurses := true, apart := false, narrowed := true }
def AffinityFreeUptoSaid : Prop := affinityFreeUptoRow.holds Try.pinned (OpenSpec.upto affinityFreeSpec)

/-- 'orchestratorlaw36.AffinityTerms', WHERE WHAT IT READS IS OF BULK AT MOST 1048576: true; the input reads as it did. -/
def affinityTermsUptoRow : OpenClaim := { program := "ytcfaaeipgmokfaa", sum := "40d48083103e324f611c16ac304441391cca3b36d1ab1c7ccfa418f250168c4c", func := "orchestrator/orchestratorlaw36.AffinityTerms", spec := "affinityTerms", recurses := true, apart := false, narrowed := true }
def AffinityTermsUptoSaid : Prop := affinityTermsUptoRow.holds Try.pinned (OpenSpec.upto affinityTermsSpec)

end Rows
end Go.Proofs.Ytcfaaeipgmokfaa
