/-
  NARROWER THAN 'FOR EVERY INPUT', by the rows' own cells (each row's printed sentence says how): DeletionBegins: loops · DeletionFinishes: loops · DeletionOnce: loops · DeletionEnds: loops · DeletionKeeps: loops.
  DERIVED. THE GIVEN ROWS OF THIS SEAT. 5 by the template 'for every input the law returns true; each argument reads behind the call as it read before'; 0 by the template 'total and deterministic' (their statements: YthkdpkgkejdcgaaTotals.lean).
  GIVEN WITH THE SEED: the statements are not yours to turn. If you find one false, say at which input.
  Laid BY PROGRAM, IN A SANDBOX (cutbox-rows.mjs): the forced cells as the released guide's own fill.sh prints them over the translation 2c6d9cf6b23ff3e0… (all of the seat's roots in one cut). By AI agents, Wed Nov 11 2026. No macro, syntax, notation, axiom, sorry.
-/
import Derived.Test.YthkdpkgkejdcgaaChecked
import GoSem.Claim
import GoSem.ClaimJoined
import GoSem.ClaimMapViews
import Derived.JoinedTies
import Derived.KernelRfl
namespace Go.Proofs.Ythkdpkgkejdcgaa
/- THE CELL 'sum', in the pinned program and in every row, IS THE sha256 OF THE DUMP (.gsa) THAT YthkdpkgkejdcgaaProg.lean LOADS. Nothing in Lean hashes anything: it is a label: what it is worth is what the hold of that sum in a sandbox is worth. -/
noncomputable def Try.pinned : Pinned := { name := "ythkdpkgkejdcgaa", sum := "2c6d9cf6b23ff3e02ca7ae1e172dc92ff064e2479ba7043b1ca7ffd75caacae2", checked := Try.checked }
namespace Rows
def none {H : Type} : Left H := { results := [], args := [] }

/-- 'orchestratorlaw21.DeletionBegins': WHATEVER THE INPUT: true; the input reads as it did. -/
def deletionBeginsSpec : ChangeSpec := { name := "deletionBegins", fn := fun _ => fun
  | [d1, d2, d3, d4] => { results := [.lit (.bool true)], args := [d1, d2, d3, d4] }
  | _ => none }
def deletionBeginsRow : OpenClaim := { program := "ythkdpkgkejdcgaa", sum := "2c6d9cf6b23ff3e02ca7ae1e172dc92ff064e2479ba7043b1ca7ffd75caacae2", func := "orchestrator/orchestratorlaw21.DeletionBegins", spec := "deletionBegins", unfollowed := true, recurses := true, loops := true, apart := false }
def DeletionBeginsSaid : Prop := deletionBeginsRow.holds Try.pinned (OpenSpec.ofChange deletionBeginsSpec)

/-- ITS FALSE NEIGHBOUR: 'it returns false'. Refute it at one input. -/
def deletionBeginsWrong : ChangeSpec := { name := "deletionBegins", fn := fun _ => fun
  | [d1, d2, d3, d4] => { results := [.lit (.bool false)], args := [d1, d2, d3, d4] }
  | _ => none }
def DeletionBeginsWrongFalsely : Prop := deletionBeginsRow.holds Try.pinned (OpenSpec.ofChange deletionBeginsWrong)

/-- 'orchestratorlaw21.DeletionFinishes': WHATEVER THE INPUT: true; the input reads as it did. -/
def deletionFinishesSpec : ChangeSpec := { name := "deletionFinishes", fn := fun _ => fun
  | [d1, d2, d3] => { results := [.lit (.bool true)], args := [d1, d2, d3] }
  | _ => none }
def deletionFinishesRow : OpenClaim := { program := "ythkdpkgkejdcgaa", sum := "2c6d9cf6b23ff3e02ca7ae1e172dc92ff064e2479ba7043b1ca7ffd75caacae2", func := "orchestrator/orchestratorlaw21.DeletionFinishes", spec := "deletionFinishes", unfollowed := true, recurses := true, loops := true, apart := false }
def DeletionFinishesSaid : Prop := deletionFinishesRow.holds Try.pinned (OpenSpec.ofChange deletionFinishesSpec)

/-- ITS FALSE NEIGHBOUR: 'it returns false'. Refute it at one input. -/
def deletionFinishesWrong : ChangeSpec := { name := "deletionFinishes", fn := fun _ => fun
  | [d1, d2, d3] => { results := [.lit (.bool false)], args := [d1, d2, d3] }
  | _ => none }
def DeletionFinishesWrongFalsely : Prop := deletionFinishesRow.holds Try.pinned (OpenSpec.ofChange deletionFinishesWrong)

/-- 'orchestratorlaw21.DeletionOnce': WHATEVER THE INPUT: true; the input reads as it did. -/
def deletionOnceSpec : ChangeSpec := { name := "deletionOnce", fn := fun _ => fun
  | [d1, d2, d3] => { results := [.lit (.bool true)], args := [d1, d2, d3] }
  | _ => none }
def deletionOnceRow : OpenClaim := { program := "ythkdpkgkejdcgaa", sum := "2c6d9cf6b23ff3e02ca7ae1e172dc92ff064e2479ba7043b1ca7ffd75caacae2", func := "orchestrator/orchestratorlaw21.DeletionOnce", spec := "deletionOnce", unfollowed := true, recurses := true, loops := true, apart := false }
def DeletionOnceSaid : Prop := deletionOnceRow.holds Try.pinned (OpenSpec.ofChange deletionOnceSpec)

/-- ITS FALSE NEIGHBOUR: 'it returns false'. Refute it at one input. -/
def deletionOnceWrong : ChangeSpec := { name := "deletionOnce", fn := fun _ => fun
  | [d1, d2, d3] => { results := [.lit (.bool false)], args := [d1, d2, d3] }
  | _ => none }
def DeletionOnceWrongFalsely : Prop := deletionOnceRow.holds Try.pinned (OpenSpec.ofChange deletionOnceWrong)

/-- 'orchestratorlaw21.DeletionEnds': WHATEVER THE INPUT: true; the input reads as it did. -/
def deletionEndsSpec : ChangeSpec := { name := "deletionEnds", fn := fun _ => fun
  | [d1, d2, d3, d4] => { results := [.lit (.bool true)], args := [d1, d2, d3, d4] }
  | _ => none }
def deletionEndsRow : OpenClaim := { program := "ythkdpkgkejdcgaa", sum := "2c6d9cf6b23ff3e02ca7ae1e172dc92ff064e2479ba7043b1ca7ffd75caacae2", func := "orchestrator/orchestratorlaw21.DeletionEnds", spec := "deletionEnds", unfollowed := true, recurses := true, loops := true, apart := false }
def DeletionEndsSaid : Prop := deletionEndsRow.holds Try.pinned (OpenSpec.ofChange deletionEndsSpec)

/-- ITS FALSE NEIGHBOUR: 'it returns false'. Refute it at one input. -/
def deletionEndsWrong : ChangeSpec := { name := "deletionEnds", fn := fun _ => fun
  | [d1, d2, d3, d4] => { results := [.lit (.bool false)], args := [d1, d2, d3, d4] }
  | _ => none }
def DeletionEndsWrongFalsely : Prop := deletionEndsRow.holds Try.pinned (OpenSpec.ofChange deletionEndsWrong)

/-- 'orchestratorlaw21.DeletionKeeps': WHATEVER THE INPUT: true; the input reads as it did. -/
def deletionKeepsSpec : ChangeSpec := { name := "deletionKeeps", fn := fun _ => fun
  | [d1, d2, d3, d4] => { results := [.lit (.bool true)], args := [d1, d2, d3, d4] }
  | _ => none }
def deletionKeepsRow : OpenClaim := { program := "ythkdpkgkejdcgaa", sum := "2c6d9cf6b23ff3e02ca7ae1e172dc92ff064e2479ba7043b1ca7ffd75caacae2", func := "orchestrator/orchestratorlaw21.DeletionKeeps", spec := "deletionKeeps", unfollowed := true, recurses := true, loops := true, apart := false }
def DeletionKeepsSaid : Prop := deletionKeepsRow.holds Try.pinned (OpenSpec.ofChange deletionKeepsSpec)

/-- ITS FALSE NEIGHBOUR: 'it returns false'. Refute it at one input. -/
def deletionKeepsWrong : ChangeSpec := { name := "deletionKeeps", fn := fun _ => fun
  | [d1, d2, d3, d4] => { results := [.lit (.bool false)], args := [d1, d2, d3, d4] }
  | _ => none }
def DeletionKeepsWrongFalsely : Prop := deletionKeepsRow.holds Try.pinned (OpenSpec.ofChange deletionKeepsWrong)

/- THE SECOND FORM. 'bulk': how many values and letters a reading holds, each counted each time it is reached (what is shared counts as often as it is met; a slice's spare places count too). A statement '..UptoSaid' is the law's where the arguments, and the package variables that the reading takes, are together of bulk at most 1048576: NARROWER than '..Said'. Prove '..Said' where nothing that the law and all that it calls make is longer than what came in: it says more and counts as full. Else prove '..UptoSaid'. A law counts once. -/
mutual
def uptoBulk {H : Type} : DataW H → Nat
  | .lit (.string bytes) => bytes.length + 1
  | .lit _ => 1
  | .nil => 1
  | .ptr d => uptoBulk d + 1
  | .slice elems spare => uptoBulkAll elems + uptoBulkAll spare + 1
  | .agg parts => uptoBulkAll parts + 1
  | .iface _ d => uptoBulk d + 1
  | .map entries => uptoBulkEntries entries + 1
  | .held _ => 1
def uptoBulkAll {H : Type} : List (DataW H) → Nat
  | [] => 0
  | d :: r => uptoBulk d + uptoBulkAll r
def uptoBulkEntries {H : Type} : List (Lit × DataW H) → Nat
  | [] => 0
  | x :: r => uptoBulkEntry x + uptoBulkEntries r
def uptoBulkEntry {H : Type} : Lit × DataW H → Nat
  | (.string bytes, d) => bytes.length + uptoBulk d + 1
  | (_, d) => uptoBulk d + 1
 end
def uptoSmall : (H : Type) → List (DataW H) → Bool := fun _ ds => decide (uptoBulkAll ds ≤ 1048576)
def OpenSpec.upto (s : _root_.Go.ChangeSpec) : _root_.Go.OpenSpec := { _root_.Go.OpenSpec.ofChange s with cond := some uptoSmall }

/-- 'orchestratorlaw21.DeletionBegins', WHERE WHAT IT READS IS OF BULK AT MOST 1048576: true; the input reads as it did. -/
def deletionBeginsUptoRow : OpenClaim := { program := "ythkdpkgkejdcgaa", sum := "2c6d9cf6b23ff3e02ca7ae1e172dc92ff064e2479ba7043b1ca7ffd75caacae2", func := "orchestrator/orchestratorlaw21.DeletionBegins", spec := "deletionBegins", unfollowed := true, recurses := true, loops := true, apart := false, narrowed := true }
def DeletionBeginsUptoSaid : Prop := deletionBeginsUptoRow.holds Try.pinned (OpenSpec.upto deletionBeginsSpec)

/-- 'orchestratorlaw21.DeletionFinishes', WHERE WHAT IT READS IS OF BULK AT MOST 1048576: true; the input reads as it did. -/
def deletionFinishesUptoRow : OpenClaim := { program := "ythkdpkgkejdcgaa", sum := "2c6d9cf6b23ff3e02ca7ae1e172dc92ff064e2479ba7043b1ca7ffd75caacae2", func := "orchestrator/orchestratorlaw21.DeletionFinishes", spec := "deletionFinishes", unfollowed := true, recurses := true, loops := true, apart := false, narrowed := true }
def DeletionFinishesUptoSaid : Prop := deletionFinishesUptoRow.holds Try.pinned (OpenSpec.upto deletionFinishesSpec)

/-- 'orchestratorlaw21.DeletionOnce', WHERE WHAT IT READS IS OF BULK AT MOST 1048576: true; the input reads as it did. -/
def deletionOnceUptoRow : OpenClaim := { program := "ythkdpkgkejdcgaa", sum := "2c6d9cf6b23ff3e02ca7ae1e172dc92ff064e2479ba7043b1ca7ffd75caacae2", func := "orchestrator/orchestratorlaw21.DeletionOnce", spec := "deletionOnce", unfollowed := true, recurses := true, loops := true, apart := false, narrowed := true }
def DeletionOnceUptoSaid : Prop := deletionOnceUptoRow.holds Try.pinned (OpenSpec.upto deletionOnceSpec)

/-- 'orchestratorlaw21.DeletionEnds', WHERE WHAT IT READS IS OF BULK AT MOST 1048576: true; the input reads as it did. -/
def deletionEndsUptoRow : OpenClaim := { program := "ythkdpkgkejdcgaa", sum := "2c6d9cf6b23ff3e02ca7ae1e172dc92ff064e2479ba7043b1ca7ffd75caacae2", func := "orchestrator/orchestratorlaw21.DeletionEnds", spec := "deletionEnds", unfollowed := true, recurses := true, loops := true, apart := false, narrowed := true }
def DeletionEndsUptoSaid : Prop := deletionEndsUptoRow.holds Try.pinned (OpenSpec.upto deletionEndsSpec)

/-- 'orchestratorlaw21.DeletionKeeps', WHERE WHAT IT READS IS OF BULK AT MOST 1048576: true; the input reads as it did. -/
def deletionKeepsUptoRow : OpenClaim := { program := "ythkdpkgkejdcgaa", sum := "2c6d9cf6b23ff3e02ca7ae1e172dc92ff064e2479ba7043b1ca7ffd75caacae2", func := "orchestrator/orchestratorlaw21.DeletionKeeps", spec := "deletionKeeps", unfollowed := true, recurses := true, loops := true, apart := false, narrowed := true }
def DeletionKeepsUptoSaid : Prop := deletionKeepsUptoRow.holds Try.pinned (OpenSpec.upto deletionKeepsSpec)

end Rows
end Go.Proofs.Ythkdpkgkejdcgaa
