/-
  No cell of these rows narrows 'for every input' (looked for: loops, veiled, ifaces, maps, wideKeys, modest, calm, conditions, laid).
  DERIVED. THE GIVEN ROWS OF THIS SEAT. 5 by the template 'for every input the law returns true; each argument reads behind the call as it read before'; 0 by the template 'total and deterministic' (their statements: YtkhmcockeikobaaTotals.lean).
  GIVEN WITH THE SEED: the statements are not yours to turn. If you find one false, say at which input.
  Laid BY PROGRAM, IN A SANDBOX (cutbox-rows.mjs): the forced cells as the released guide's own fill.sh prints them over the translation 808375c10f540a5e… (all of the seat's roots in one cut). By AI agents, Wed Nov 11 2026. No macro, syntax, notation, axiom, sorry.
-/
import Derived.Test.YtkhmcockeikobaaChecked
import GoSem.Claim
import GoSem.ClaimJoined
import GoSem.ClaimMapViews
import Derived.JoinedTies
import Derived.KernelRfl
namespace Go.Proofs.Ytkhmcockeikobaa
/- THE CELL 'sum', in the pinned program and in every row, IS THE sha256 OF THE DUMP (.gsa) THAT YtkhmcockeikobaaProg.lean LOADS. Nothing in Lean hashes anything: it is a label: what it is worth is what the hold of that sum in a sandbox is worth. -/
noncomputable def Try.pinned : Pinned := { name := "ytkhmcockeikobaa", sum := "808375c10f540a5e4d2a20f2c342aae442887aea932149cd4472e9c106d1edeb", checked := Try.checked }
namespace Rows
def none {H : Type} : Left H := { results := [], args := [] }

/-- 'orchestratorlaw35.TaintMatches': WHATEVER THE INPUT: true; the input reads as it did. -/
def taintMatchesSpec : ChangeSpec := { name := "taintMatches", fn := fun _ => fun
  | [d1, d2] => { results := [.lit (.bool true)], args := [d1, d2] }
  | _ => none }
def taintMatchesRow : OpenClaim := { program := "ytkhmcockeikobaa", sum := "808375c10f540a5e4d2a20f2c342aae442887aea932149cd4472e9c106d1edeb", func := "orchestrator/orchestratorlaw35.TaintMatches", spec := "taintMatches", unfollowed := true, recurses := true, apart := false }
def TaintMatchesSaid : Prop := taintMatchesRow.holds Try.pinned (OpenSpec.ofChange taintMatchesSpec)

/-- ITS FALSE NEIGHBOUR: 'it returns false'. Refute it at one input. -/
def taintMatchesWrong : ChangeSpec := { name := "taintMatches", fn := fun _ => fun
  | [d1, d2] => { results := [.lit (.bool false)], args := [d1, d2] }
  | _ => none }
def TaintMatchesWrongFalsely : Prop := taintMatchesRow.holds Try.pinned (OpenSpec.ofChange taintMatchesWrong)

/-- 'orchestratorlaw35.TaintBlocks': WHATEVER THE INPUT: true; the input reads as it did. -/
def taintBlocksSpec : ChangeSpec := { name := "taintBlocks", fn := fun _ => fun
  | [d1, d2] => { results := [.lit (.bool true)], args := [d1, d2] }
  | _ => none }
def taintBlocksRow : OpenClaim := { program := "ytkhmcockeikobaa", sum := "808375c10f540a5e4d2a20f2c342aae442887aea932149cd4472e9c106d1edeb", func := "orchestrator/orchestratorlaw35.TaintBlocks", spec := "taintBlocks", unfollowed := true, recurses := true, apart := false }
def TaintBlocksSaid : Prop := taintBlocksRow.holds Try.pinned (OpenSpec.ofChange taintBlocksSpec)

/-- ITS FALSE NEIGHBOUR: 'it returns false'. Refute it at one input. -/
def taintBlocksWrong : ChangeSpec := { name := "taintBlocks", fn := fun _ => fun
  | [d1, d2] => { results := [.lit (.bool false)], args := [d1, d2] }
  | _ => none }
def TaintBlocksWrongFalsely : Prop := taintBlocksRow.holds Try.pinned (OpenSpec.ofChange taintBlocksWrong)

/-- 'orchestratorlaw35.TaintLeaves': WHATEVER THE INPUT: true; the input reads as it did. -/
def taintLeavesSpec : ChangeSpec := { name := "taintLeaves", fn := fun _ => fun
  | [d1, d2] => { results := [.lit (.bool true)], args := [d1, d2] }
  | _ => none }
def taintLeavesRow : OpenClaim := { program := "ytkhmcockeikobaa", sum := "808375c10f540a5e4d2a20f2c342aae442887aea932149cd4472e9c106d1edeb", func := "orchestrator/orchestratorlaw35.TaintLeaves", spec := "taintLeaves", unfollowed := true, recurses := true, apart := false }
def TaintLeavesSaid : Prop := taintLeavesRow.holds Try.pinned (OpenSpec.ofChange taintLeavesSpec)

/-- ITS FALSE NEIGHBOUR: 'it returns false'. Refute it at one input. -/
def taintLeavesWrong : ChangeSpec := { name := "taintLeaves", fn := fun _ => fun
  | [d1, d2] => { results := [.lit (.bool false)], args := [d1, d2] }
  | _ => none }
def TaintLeavesWrongFalsely : Prop := taintLeavesRow.holds Try.pinned (OpenSpec.ofChange taintLeavesWrong)

/-- 'orchestratorlaw35.TaintTolerated': WHATEVER THE INPUT: true; the input reads as it did. -/
def taintToleratedSpec : ChangeSpec := { name := "taintTolerated", fn := fun _ => fun
  | [d1, d2, d3, d4] => { results := [.lit (.bool true)], args := [d1, d2, d3, d4] }
  | _ => none }
def taintToleratedRow : OpenClaim := { program := "ytkhmcockeikobaa", sum := "808375c10f540a5e4d2a20f2c342aae442887aea932149cd4472e9c106d1edeb", func := "orchestrator/orchestratorlaw35.TaintTolerated", spec := "taintTolerated", unfollowed := true, recurses := true, apart := false }
def TaintToleratedSaid : Prop := taintToleratedRow.holds Try.pinned (OpenSpec.ofChange taintToleratedSpec)

/-- ITS FALSE NEIGHBOUR: 'it returns false'. Refute it at one input. -/
def taintToleratedWrong : ChangeSpec := { name := "taintTolerated", fn := fun _ => fun
  | [d1, d2, d3, d4] => { results := [.lit (.bool false)], args := [d1, d2, d3, d4] }
  | _ => none }
def TaintToleratedWrongFalsely : Prop := taintToleratedRow.holds Try.pinned (OpenSpec.ofChange taintToleratedWrong)

/-- 'orchestratorlaw35.TaintOrder': WHATEVER THE INPUT: true; the input reads as it did. -/
def taintOrderSpec : ChangeSpec := { name := "taintOrder", fn := fun _ => fun
  | [d1, d2] => { results := [.lit (.bool true)], args := [d1, d2] }
  | _ => none }
def taintOrderRow : OpenClaim := { program := "ytkhmcockeikobaa", sum := "808375c10f540a5e4d2a20f2c342aae442887aea932149cd4472e9c106d1edeb", func := "orchestrator/orchestratorlaw35.TaintOrder", spec := "taintOrder", unfollowed := true, recurses := true, apart := false }
def TaintOrderSaid : Prop := taintOrderRow.holds Try.pinned (OpenSpec.ofChange taintOrderSpec)

/-- ITS FALSE NEIGHBOUR: 'it returns false'. Refute it at one input. -/
def taintOrderWrong : ChangeSpec := { name := "taintOrder", fn := fun _ => fun
  | [d1, d2] => { results := [.lit (.bool false)], args := [d1, d2] }
  | _ => none }
def TaintOrderWrongFalsely : Prop := taintOrderRow.holds Try.pinned (OpenSpec.ofChange taintOrderWrong)

/- THE SECOND FORM. 'bulk': how many values and letters a reading holds, each counted each time it is reached (what is shared counts as often as it is met; a slice's spare places count too). A statement '..UptoSaid' is the law's where the arguments, and the package variables that the reading takes, are together of bulk at most 1048576: NARROWER than '..Said'. Prove '..Said' where nothing that the law and all that it calls make is longer than what came in: it says more and counts as full. Else prove '..UptoSaid'. A law counts once. -/
mutual
def uptoBulk {H : Type} : DataW H → Nat
  | .lit (.string bytes) => bytes.length + 1
  | .lit _ => 1
  | .nil => 1
  | .ptr d => uptoBulk d + 1
  | .slice elems spare => uptoBulkAll elems + uptoBulkAll spare + 1
  | .agg parts => uptoBulkAll parts + 1
  | .iface _ d => uptoBulk d + 1
  | .map entries => uptoBulkEntries entries + 1
  | .held _ => 1
def uptoBulkAll {H : Type} : List (DataW H) → Nat
  | [] => 0
  | d :: r => uptoBulk d + uptoBulkAll r
def uptoBulkEntries {H : Type} : List (Lit × DataW H) → Nat
  | [] => 0
  | x :: r => uptoBulkEntry x + uptoBulkEntries r
def uptoBulkEntry {H : Type} : Lit × DataW H → Nat
  | (.string bytes, d) => bytes.length + uptoBulk d + 1
  | (_, d) => uptoBulk d + 1
 end
def uptoSmall : (H : Type) → List (DataW H) → Bool := fun _ ds => decide (uptoBulkAll ds ≤ 1048576)
def OpenSpec.upto (s : _root_.Go.ChangeSpec) : _root_.Go.OpenSpec := { _root_.Go.OpenSpec.ofChange s with cond := some uptoSmall }

/-- 'orchestratorlaw35.TaintMatches', WHERE WHAT IT READS IS OF BULK AT MOST 1048576: true; the input reads as it did. -/
def taintMatchesUptoRow : OpenClaim := { program := "ytkhmcockeikobaa", sum := "808375c10f540a5e4d2a20f2c342aae442887aea932149cd4472e9c106d1edeb", func := "orchestrator/orchestratorlaw35.TaintMatches", spec := "taintMatches", unfollowed := true, recurses := true, apart := false, narrowed := true }
def TaintMatchesUptoSaid : Prop := taintMatchesUptoRow.holds Try.pinned (OpenSpec.upto taintMatchesSpec)

/-- 'orchestratorlaw35.TaintBlocks', WHERE WHAT IT READS IS OF BULK AT MOST 1048576: true; the input reads as it did. -/
def taintBlocksUptoRow : OpenClaim := { program := "ytkhmcockeikobaa", sum := "808375c10f540a5e4d2a20f2c342aae442887aea932149cd4472e9c106d1edeb", func := "orchestrator/orchestratorlaw35.TaintBlocks", spec := "taintBlocks", unfollowed := true, recurses := true, apart := false, narrowed := true }
def TaintBlocksUptoSaid : Prop := taintBlocksUptoRow.holds Try.pinned (OpenSpec.upto taintBlocksSpec)

/-- 'orchestratorlaw35.TaintLeaves', WHERE WHAT IT READS IS OF BULK AT MOST 1048576: true; the input reads as it did. -/
def taintLeavesUptoRow : OpenClaim := { program := "ytkhmcockeikobaa", sum := "808375c10f540a5e4d2a20f2c342aae442887aea932149cd4472e9c106d1edeb", func := "orchestrator/orchestratorlaw35.TaintLeaves", spec := "taintLeaves", unfollowed := true, recurses := true, apart := false, narrowed := true }
def TaintLeavesUptoSaid : Prop := taintLeavesUptoRow.holds Try.pinned (OpenSpec.upto taintLeavesSpec)

/-- 'orchestratorlaw35.TaintTolerated', WHERE WHAT IT READS IS OF BULK AT MOST 1048576: true; the input reads as it did. -/
def taintToleratedUptoRow : OpenClaim := { program := "ytkhmcockeikobaa", sum := "808375c10f540a5e4d2a20f2c342aae442887aea932149cd4472e9c106d1edeb", func := "orchestrator/orchestratorlaw35.TaintTolerated", spec := "taintTolerated", unfollowed := true, recurses := true, apart := false, narrowed := true }
def TaintToleratedUptoSaid : Prop := taintToleratedUptoRow.holds Try.pinned (OpenSpec.upto taintToleratedSpec)

/-- 'orchestratorlaw35.TaintOrder', WHERE WHAT IT READS IS OF BULK AT MOST 1048576: true; the input reads as it did. -/
def taintOrderUptoRow : OpenClaim := { program := "ytkhmcockeikobaa", sum := "808375c10f540a5e4d2a20f2c342aae442887aea932149cd4472e9c106d1edeb", func := "orchestrator/orchestratorlaw35.TaintOrder", spec := "taintOrder", unfollowed := true, recurses := true, apart := false, narrowed := true }
def TaintOrderUptoSaid : Prop := taintOrderUptoRow.holds Try.pinned (OpenSpec.upto taintOrderSpec)

end Rows
end Go.Proofs.Ytkhmcockeikobaa
