/-
  No cell of these rows narrows 'for every input' (looked for: loops, veiled, ifaces, maps, wideKeys, modest, calm, conditions, laid).
  DERIVED. THE GIVEN ROWS OF THIS SEAT. 4 by the template 'for every input the law returns true; each argument reads behind the call as it read before'; 0 by the template 'total and deterministic' (their statements: YtohhdiifohhghaaTotals.lean).
  GIVEN WITH THE SEED: the statements are not yours to turn. If you find one false, say at which input.
  Laid BY PROGRAM, IN A SANDBOX (cutbox-rows.mjs): the forced cells as the released guide's own fill.sh prints them over the translation 76d3d108e1b29087… (all of the seat's roots in one cut). By AI agents, Wed Nov 11 2026. No macro, syntax, notation, axiom, sorry.
-/
import Derived.Test.YtohhdiifohhghaaChecked
import GoSem.Claim
import GoSem.ClaimJoined
import GoSem.ClaimMapViews
import Derived.JoinedTies
import Derived.KernelRfl
namespace Go.Proofs.Ytohhdiifohhghaa
/- THE CELL 'sum', in the pinned program and in every row, IS THE sha256 OF THE DUMP (.gsa) THAT YtohhdiifohhghaaProg.lean LOADS. Nothing in Lean hashes anything: it is a label: what it is worth is what the hold of that sum in a sandbox is worth. -/
noncomputable def Try.pinned : Pinned := { name := "ytohhdiifohhghaa", sum := "76d3d108e1b290871e7393a5a0d837f908fcb863b29829e1d92b3eda9feebbc9", checked := Try.checked }
namespace Rows
def none {H : Type} : Left H := { results := [], args := [] }

/-- 'orchestratorlaw37.SpreadCounts': WHATEVER THE INPUT: true; the input reads as it did. -/
def spreadCountsSpec : ChangeSpec := { name := "spreadCounts", fn := fun _ => fun
  | [d1, d2, d3] => { results := [.lit (.bool true)], args := [d1, d2, d3] }
  | _ => none }
def spreadCountsRow : OpenClaim := { program := "ytohhdiifohhghaa", sum := "76d3d108e1b290871e7393a5a0d837f908fcb863b29829e1d92b3eda9feebbc9", func := "orchestrator/orchestratorlaw37.SpreadCounts", spec := "spreadCounts", inPlace := ["internal/bytealg.abigen_runtime_cmpstring"], unfollowed := true, recurses := true, apart := false }
def SpreadCountsSaid : Prop := spreadCountsRow.holds Try.pinned (OpenSpec.ofChange spreadCountsSpec)

/-- ITS FALSE NEIGHBOUR: 'it returns false'. Refute it at one input. -/
def spreadCountsWrong : ChangeSpec := { name := "spreadCounts", fn := fun _ => fun
  | [d1, d2, d3] => { results := [.lit (.bool false)], args := [d1, d2, d3] }
  | _ => none }
def SpreadCountsWrongFalsely : Prop := spreadCountsRow.holds Try.pinned (OpenSpec.ofChange spreadCountsWrong)

/-- 'orchestratorlaw37.SpreadFits': WHATEVER THE INPUT: true; the input reads as it did. -/
def spreadFitsSpec : ChangeSpec := { name := "spreadFits", fn := fun _ => fun
  | [d1, d2, d3] => { results := [.lit (.bool true)], args := [d1, d2, d3] }
  | _ => none }
def spreadFitsRow : OpenClaim := { program := "ytohhdiifohhghaa", sum := "76d3d108e1b290871e7393a5a0d837f908fcb863b29829e1d92b3eda9feebbc9", func := "orchestrator/orchestratorlaw37.SpreadFits", spec := "spreadFits", inPlace := ["internal/bytealg.abigen_runtime_cmpstring"], unfollowed := true, recurses := true, apart := false }
def SpreadFitsSaid : Prop := spreadFitsRow.holds Try.pinned (OpenSpec.ofChange spreadFitsSpec)

/-- ITS FALSE NEIGHBOUR: 'it returns false'. Refute it at one input. -/
def spreadFitsWrong : ChangeSpec := { name := "spreadFits", fn := fun _ => fun
  | [d1, d2, d3] => { results := [.lit (.bool false)], args := [d1, d2, d3] }
  | _ => none }
def SpreadFitsWrongFalsely : Prop := spreadFitsRow.holds Try.pinned (OpenSpec.ofChange spreadFitsWrong)

/-- 'orchestratorlaw37.SpreadSkew': WHATEVER THE INPUT: true; the input reads as it did. -/
def spreadSkewSpec : ChangeSpec := { name := "spreadSkew", fn := fun _ => fun
  | [d1, d2, d3] => { results := [.lit (.bool true)], args := [d1, d2, d3] }
  | _ => none }
def spreadSkewRow : OpenClaim := { program := "ytohhdiifohhghaa", sum := "76d3d108e1b290871e7393a5a0d837f908fcb863b29829e1d92b3eda9feebbc9", func := "orchestrator/orchestratorlaw37.SpreadSkew", spec := "spreadSkew", inPlace := ["internal/bytealg.abigen_runtime_cmpstring"], unfollowed := true, recurses := true, apart := false }
def SpreadSkewSaid : Prop := spreadSkewRow.holds Try.pinned (OpenSpec.ofChange spreadSkewSpec)

/-- ITS FALSE NEIGHBOUR: 'it returns false'. Refute it at one input. -/
def spreadSkewWrong : ChangeSpec := { name := "spreadSkew", fn := fun _ => fun
  | [d1, d2, d3] => { results := [.lit (.bool false)], args := [d1, d2, d3] }
  | _ => none }
def SpreadSkewWrongFalsely : Prop := spreadSkewRow.holds Try.pinned (OpenSpec.ofChange spreadSkewWrong)

/-- 'orchestratorlaw37.SpreadTotal': WHATEVER THE INPUT: true; the input reads as it did. -/
def spreadTotalSpec : ChangeSpec := { name := "spreadTotal", fn := fun _ => fun
  | [d1, d2, d3] => { results := [.lit (.bool true)], args := [d1, d2, d3] }
  | _ => none }
def spreadTotalRow : OpenClaim := { program := "ytohhdiifohhghaa", sum := "76d3d108e1b290871e7393a5a0d837f908fcb863b29829e1d92b3eda9feebbc9", func := "orchestrator/orchestratorlaw37.SpreadTotal", spec := "spreadTotal", inPlace := ["internal/bytealg.abigen_runtime_cmpstring"], unfollowed := true, recurses := true, apart := false }
def SpreadTotalSaid : Prop := spreadTotalRow.holds Try.pinned (OpenSpec.ofChange spreadTotalSpec)

/-- ITS FALSE NEIGHBOUR: 'it returns false'. Refute it at one input. -/
def spreadTotalWrong : ChangeSpec := { name := "spreadTotal", fn := fun _ => fun
  | [d1, d2, d3] => { results := [.lit (.bool false)], args := [d1, d2, d3] }
  | _ => none }
def SpreadTotalWrongFalsely : Prop := spreadTotalRow.holds Try.pinned (OpenSpec.ofChange spreadTotalWrong)

/- THE SECOND FORM. 'bulk': how many values and letters a reading holds, each counted each time it is reached (what is shared counts as often as it is met; a slice's spare places count too). A statement '..UptoSaid' is the law's where the arguments, and the package variables that the reading takes, are together of bulk at most 1048576: NARROWER than '..Said'. Prove '..Said' where nothing that the law and all that it calls make is longer than what came in: it says more and counts as full. Else prove '..UptoSaid'. A law counts once. -/
mutual
def uptoBulk {H : Type} : DataW H → Nat
  | .lit (.string bytes) => bytes.length + 1
  | .lit _ => 1
  | .nil => 1
  | .ptr d => uptoBulk d + 1
  | .slice elems spare => uptoBulkAll elems + uptoBulkAll spare + 1
  | .agg parts => uptoBulkAll parts + 1
  | .iface _ d => uptoBulk d + 1
  | .map entries => uptoBulkEntries entries + 1
  | .held _ => 1
def uptoBulkAll {H : Type} : List (DataW H) → Nat
  | [] => 0
  | d :: r => uptoBulk d + uptoBulkAll r
def uptoBulkEntries {H : Type} : List (Lit × DataW H) → Nat
  | [] => 0
  | x :: r => uptoBulkEntry x + uptoBulkEntries r
def uptoBulkEntry {H : Type} : Lit × DataW H → Nat
  | (.string bytes, d) => bytes.length + uptoBulk d + 1
  | (_, d) => uptoBulk d + 1
 end
def uptoSmall : (H : Type) → List (DataW H) → Bool := fun _ ds => decide (uptoBulkAll ds ≤ 1048576)
def OpenSpec.upto (s : _root_.Go.ChangeSpec) : _root_.Go.OpenSpec := { _root_.Go.OpenSpec.ofChange s with cond := some uptoSmall }

/-- 'orchestratorlaw37.SpreadCounts', WHERE WHAT IT READS IS OF BULK AT MOST 1048576: true; the input reads as it did. -/
def spreadCountsUptoRow : OpenClaim := { program := "ytohhdiifohhghaa", sum := "76d3d108e1b290871e7393a5a0d837f908fcb863b29829e1d92b3eda9feebbc9", func := "orchestrator/orchestratorlaw37.SpreadCounts", spec := "spreadCounts", inPlace := ["internal/bytealg.abigen_runtime_cmpstring"], unfollowed := true, recurses := true, apart := false, narrowed := true }
def SpreadCountsUptoSaid : Prop := spreadCountsUptoRow.holds Try.pinned (OpenSpec.upto spreadCountsSpec)

/-- 'orchestratorlaw37.SpreadFits', WHERE WHAT IT READS IS OF BULK AT MOST 1048576: true; the input reads as it did. -/
def spreadFitsUptoRow : OpenClaim := { program := "ytohhdiifohhghaa", sum := "76d3d108e1b290871e7393a5a0d837f908fcb863b29829e1d92b3eda9feebbc9", func := "orchestrator/orchestratorlaw37.SpreadFits", spec := "spreadFits", inPlace := ["internal/bytealg.abigen_runtime_cmpstring"], unfollowed := true, recurses := true, apart := false, narrowed := true }
def SpreadFitsUptoSaid : Prop := spreadFitsUptoRow.holds Try.pinned (OpenSpec.upto spreadFitsSpec)

/-- 'orchestratorlaw37.SpreadSkew', WHERE WHAT IT READS IS OF BULK AT MOST 1048576: true; the input reads as it did. -/
def spreadSkewUptoRow : OpenClaim := { program := "ytohhdiifohhghaa", sum := "76d3d108e1b290871e7393a5a0d837f908fcb863b29829e1d92b3eda9feebbc9", func := "orchestrator/orchestratorlaw37.SpreadSkew", spec := "spreadSkew", inPlace := ["internal/bytealg.abigen_runtime_cmpstring"], unfollowed := true, recurses := true, apart := false, narrowed := true }
def SpreadSkewUptoSaid : Prop := spreadSkewUptoRow.holds Try.pinned (OpenSpec.upto spreadSkewSpec)

/-- 'orchestratorlaw37.SpreadTotal', WHERE WHAT IT READS IS OF BULK AT MOST 1048576: true; the input reads as it did. -/
def spreadTotalUptoRow : OpenClaim := { program := "ytohhdiifohhghaa", sum := "76d3d108e1b290871e7393a5a0d837f908fcb863b29829e1d92b3eda9feebbc9", func := "orchestrator/orchestratorlaw37.SpreadTotal", spec := "spreadTotal", inPlace := ["internal/bytealg.abigen_runtime_cmpstring"], unfollowed := true, recurses := true, apart := false, narrowed := true }
def SpreadTotalUptoSaid : Prop := spreadTotalUptoRow.holds Try.pinned (OpenSpec.upto spreadTotalSpec)

end Rows
end Go.Proofs.Ytohhdiifohhghaa
