/-
  No cell of these rows narrows 'for every input' (looked for: loops, veiled, ifaces, maps, wideKeys, modest, calm, conditions, laid).
  DERIVED. THE GIVEN ROWS OF THIS SEAT. 4 by the template 'for every input the law returns true; each argument reads behind the call as it read before'; 0 by the template 'total and deterministic' (their statements: YtkdikhonafbgdaaTotals.lean).
  GIVEN WITH THE SEED: the statements are not yours to turn. If you find one false, say at which input.
  Laid BY PROGRAM, IN A SANDBOX (cutbox-rows.mjs): the forced cells as the released guide's own fill.sh prints them over the translation 0ef919fb539d1afd… (all of the seat's roots in one cut). By AI agents, Wed Nov 11 2026. No macro, syntax, notation, axiom, sorry.
-/
import Derived.Test.YtkdikhonafbgdaaChecked
import GoSem.Claim
import GoSem.ClaimJoined
import GoSem.ClaimMapViews
import Derived.JoinedTies
import Derived.KernelRfl
namespace Go.Proofs.Ytkdikhonafbgdaa
/- THE CELL 'sum', in the pinned program and in every row, IS THE sha256 OF THE DUMP (.gsa) THAT YtkdikhonafbgdaaProg.lean LOADS. Nothing in Lean hashes anything: it is a label: what it is worth is what the hold of that sum in a sandbox is worth. -/
noncomputable def Try.pinned : Pinned := { name := "ytkdikhonafbgdaa", sum := "0ef919fb539d1afda78c998abf26a840ca5ede09e54b39162ac74d76a4d9c6d9", checked := Try.checked }
namespace Rows
def none {H : Type} : Left H := { results := [], args := [] }

/-- 'orchestratorlaw57.NetpolicyAllows': WHATEVER THE INPUT: true; the input reads as it did. -/
def netpolicyAllowsSpec : ChangeSpec := { name := "netpolicyAllows", fn := fun _ => fun
  | [d1, d2, d3, d4] => { results := [.lit (.bool true)], args := [d1, d2, d3, d4] }
  | _ => none }
def netpolicyAllowsRow : OpenClaim := { program := "ytkdikhonafbgdaa", sum := "0ef919fb539d1afda78c998abf26a840ca5ede09e54b39162ac74d76a4d9c6d9", func := "orchestrator/orchestratorlaw57.NetpolicyAllows", spec := "netpolicyAllows", unfollowed := true, recurses := true, apart := false }
def NetpolicyAllowsSaid : Prop := netpolicyAllowsRow.holds Try.pinned (OpenSpec.ofChange netpolicyAllowsSpec)

/-- ITS FALSE NEIGHBOUR: 'it returns false'. Refute it at one input. -/
def netpolicyAllowsWrong : ChangeSpec := { name := "netpolicyAllows", fn := fun _ => fun
  | [d1, d2, d3, d4] => { results := [.lit (.bool false)], args := [d1, d2, d3, d4] }
  | _ => none }
def NetpolicyAllowsWrongFalsely : Prop := netpolicyAllowsRow.holds Try.pinned (OpenSpec.ofChange netpolicyAllowsWrong)

/-- 'orchestratorlaw57.NetpolicyReaches': WHATEVER THE INPUT: true; the input reads as it did. -/
def netpolicyReachesSpec : ChangeSpec := { name := "netpolicyReaches", fn := fun _ => fun
  | [d1, d2, d3] => { results := [.lit (.bool true)], args := [d1, d2, d3] }
  | _ => none }
def netpolicyReachesRow : OpenClaim := { program := "ytkdikhonafbgdaa", sum := "0ef919fb539d1afda78c998abf26a840ca5ede09e54b39162ac74d76a4d9c6d9", func := "orchestrator/orchestratorlaw57.NetpolicyReaches", spec := "netpolicyReaches", unfollowed := true, recurses := true, apart := false }
def NetpolicyReachesSaid : Prop := netpolicyReachesRow.holds Try.pinned (OpenSpec.ofChange netpolicyReachesSpec)

/-- ITS FALSE NEIGHBOUR: 'it returns false'. Refute it at one input. -/
def netpolicyReachesWrong : ChangeSpec := { name := "netpolicyReaches", fn := fun _ => fun
  | [d1, d2, d3] => { results := [.lit (.bool false)], args := [d1, d2, d3] }
  | _ => none }
def NetpolicyReachesWrongFalsely : Prop := netpolicyReachesRow.holds Try.pinned (OpenSpec.ofChange netpolicyReachesWrong)

/-- 'orchestratorlaw57.NetpolicyMonotone': WHATEVER THE INPUT: true; the input reads as it did. -/
def netpolicyMonotoneSpec : ChangeSpec := { name := "netpolicyMonotone", fn := fun _ => fun
  | [d1, d2, d3, d4, d5, d6, d7] => { results := [.lit (.bool true)], args := [d1, d2, d3, d4, d5, d6, d7] }
  | _ => none }
def netpolicyMonotoneRow : OpenClaim := { program := "ytkdikhonafbgdaa", sum := "0ef919fb539d1afda78c998abf26a840ca5ede09e54b39162ac74d76a4d9c6d9", func := "orchestrator/orchestratorlaw57.NetpolicyMonotone", spec := "netpolicyMonotone", unfollowed := true, recurses := true, apart := false }
def NetpolicyMonotoneSaid : Prop := netpolicyMonotoneRow.holds Try.pinned (OpenSpec.ofChange netpolicyMonotoneSpec)

/-- ITS FALSE NEIGHBOUR: 'it returns false'. Refute it at one input. -/
def netpolicyMonotoneWrong : ChangeSpec := { name := "netpolicyMonotone", fn := fun _ => fun
  | [d1, d2, d3, d4, d5, d6, d7] => { results := [.lit (.bool false)], args := [d1, d2, d3, d4, d5, d6, d7] }
  | _ => none }
def NetpolicyMonotoneWrongFalsely : Prop := netpolicyMonotoneRow.holds Try.pinned (OpenSpec.ofChange netpolicyMonotoneWrong)

/-- 'orchestratorlaw57.NetpolicyOrder': WHATEVER THE INPUT: true; the input reads as it did. -/
def netpolicyOrderSpec : ChangeSpec := { name := "netpolicyOrder", fn := fun _ => fun
  | [d1, d2, d3, d4] => { results := [.lit (.bool true)], args := [d1, d2, d3, d4] }
  | _ => none }
def netpolicyOrderRow : OpenClaim := { program := "ytkdikhonafbgdaa", sum := "0ef919fb539d1afda78c998abf26a840ca5ede09e54b39162ac74d76a4d9c6d9", func := "orchestrator/orchestratorlaw57.NetpolicyOrder", spec := "netpolicyOrder", unfollowed := true, recurses := true, apart := false }
def NetpolicyOrderSaid : Prop := netpolicyOrderRow.holds Try.pinned (OpenSpec.ofChange netpolicyOrderSpec)

/-- ITS FALSE NEIGHBOUR: 'it returns false'. Refute it at one input. -/
def netpolicyOrderWrong : ChangeSpec := { name := "netpolicyOrder", fn := fun _ => fun
  | [d1, d2, d3, d4] => { results := [.lit (.bool false)], args := [d1, d2, d3, d4] }
  | _ => none }
def NetpolicyOrderWrongFalsely : Prop := netpolicyOrderRow.holds Try.pinned (OpenSpec.ofChange netpolicyOrderWrong)

/- THE SECOND FORM. 'bulk': how many values and letters a reading holds, each counted each time it is reached (what is shared counts as often as it is met; a slice's spare places count too). A statement '..UptoSaid' is the law's where the arguments, and the package variables that the reading takes, are together of bulk at most 1048576: NARROWER than '..Said'. Prove '..Said' where nothing that the law and all that it calls make is longer than what came in: it says more and counts as full. Else prove '..UptoSaid'. A law counts once. -/
mutual
def uptoBulk {H : Type} : DataW H → Nat
  | .lit (.string bytes) => bytes.length + 1
  | .lit _ => 1
  | .nil => 1
  | .ptr d => uptoBulk d + 1
  | .slice elems spare => uptoBulkAll elems + uptoBulkAll spare + 1
  | .agg parts => uptoBulkAll parts + 1
  | .iface _ d => uptoBulk d + 1
  | .map entries => uptoBulkEntries entries + 1
  | .held _ => 1
def uptoBulkAll {H : Type} : List (DataW H) → Nat
  | [] => 0
  | d :: r => uptoBulk d + uptoBulkAll r
def uptoBulkEntries {H : Type} : List (Lit × DataW H) → Nat
  | [] => 0
  | x :: r => uptoBulkEntry x + uptoBulkEntries r
def uptoBulkEntry {H : Type} : Lit × DataW H → Nat
  | (.string bytes, d) => bytes.length + uptoBulk d + 1
  | (_, d) => uptoBulk d + 1
 end
def uptoSmall : (H : Type) → List (DataW H) → Bool := fun _ ds => decide (uptoBulkAll ds ≤ 1048576)
def OpenSpec.upto (s : _root_.Go.ChangeSpec) : _root_.Go.OpenSpec := { _root_.Go.OpenSpec.ofChange s with cond := some uptoSmall }

/-- 'orchestratorlaw57.NetpolicyAllows', WHERE WHAT IT READS IS OF BULK AT MOST 1048576: true; the input reads as it did. -/
def netpolicyAllowsUptoRow : OpenClaim := { program := "ytkdikhonafbgdaa", sum := "0ef919fb539d1afda78c998abf26a840ca5ede09e54b39162ac74d76a4d9c6d9", func := "orchestrator/orchestratorlaw57.NetpolicyAllows", spec := "netpolicyAllows", unfollowed := true, recurses := true, apart := false, narrowed := true }
def NetpolicyAllowsUptoSaid : Prop := netpolicyAllowsUptoRow.holds Try.pinned (OpenSpec.upto netpolicyAllowsSpec)

/-- 'orchestratorlaw57.NetpolicyReaches', WHERE WHAT IT READS IS OF BULK AT MOST 1048576: true; the input reads as it did. -/
def netpolicyReachesUptoRow : OpenClaim := { program := "ytkdikhonafbgdaa", sum := "0ef919fb539d1afda78c998abf26a840ca5ede09e54b39162ac74d76a4d9c6d9", func := "orchestrator/orchestratorlaw57.NetpolicyReaches", spec := "netpolicyReaches", unfollowed := true, recurses := true, apart := false, narrowed := true }
def NetpolicyReachesUptoSaid : Prop := netpolicyReachesUptoRow.holds Try.pinned (OpenSpec.upto netpolicyReachesSpec)

/-- 'orchestratorlaw57.NetpolicyMonotone', WHERE WHAT IT READS IS OF BULK AT MOST 1048576: true; the input reads as it did. -/
def netpolicyMonotoneUptoRow : OpenClaim := { program := "ytkdikhonafbgdaa", sum := "0ef919fb539d1afda78c998abf26a840ca5ede09e54b39162ac74d76a4d9c6d9", func := "orchestrator/orchestratorlaw57.NetpolicyMonotone", spec := "netpolicyMonotone", unfollowed := true, recurses := true, apart := false, narrowed := true }
def NetpolicyMonotoneUptoSaid : Prop := netpolicyMonotoneUptoRow.holds Try.pinned (OpenSpec.upto netpolicyMonotoneSpec)

/-- 'orchestratorlaw57.NetpolicyOrder', WHERE WHAT IT READS IS OF BULK AT MOST 1048576: true; the input reads as it did. -/
def netpolicyOrderUptoRow : OpenClaim := { program := "ytkdikhonafbgdaa", sum := "0ef919fb539d1afda78c998abf26a840ca5ede09e54b39162ac74d76a4d9c6d9", func := "orchestrator/orchestratorlaw57.NetpolicyOrder", spec := "netpolicyOrder", unfollowed := true, recurses := true, apart := false, narrowed := true }
def NetpolicyOrderUptoSaid : Prop := netpolicyOrderUptoRow.holds Try.pinned (OpenSpec.upto netpolicyOrderSpec)

end Rows
end Go.Proofs.Ytkdikhonafbgdaa
