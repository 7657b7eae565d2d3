/-
  No cell of these rows narrows 'for every input' (looked for: loops, veiled, ifaces, maps, wideKeys, modest, calm, conditions, laid).
  DERIVED. THE GIVEN ROWS OF THIS SEAT. 4 by the template 'for every input the law returns true; each argument reads behind the call as it read before'; 0 by the template 'total and deterministic' (their statements: YtilppppcafphbaaGreatTotals.lean).
  GIVEN WITH THE SEED: the statements are not yours to turn. If you find one false, say at which input.
  Laid BY PROGRAM, IN A SANDBOX (cutbox-rows.mjs): the forced cells as the released guide's own fill.sh prints them over the translation 9cf90b051dfd67ce… (all of the seat's roots in one cut). By AI agents, Wed Nov 11 2026. No macro, syntax, notation, axiom, sorry.
-/
import Derived.Test.YtilppppcafphbaaGreatChecked
import GoSem.Claim
import GoSem.ClaimJoined
import GoSem.ClaimMapViews
import Derived.JoinedTies
import Derived.KernelRfl
namespace Go.Proofs.YtilppppcafphbaaGreat
/- THE CELL 'sum', in the pinned program and in every row, IS THE sha256 OF THE DUMP (.gsa) THAT YtilppppcafphbaaGreatProg.lean LOADS. Nothing in Lean hashes anything: it is a label: what it is worth is what the hold of that sum in a sandbox is worth. -/
noncomputable def Tryz.pinned : Pinned := { name := "ytilppppcafphbaagreat", sum := "9cf90b051dfd67ce23684564870589d51cfe4f30d7bf4e8471eeb9549859a191", checked := Tryz.checked }
namespace Rows
def none {H : Type} : Left H := { results := [], args := [] }

/-- 'orchestratorlaw39.ScoreSays': WHATEVER THE INPUT: true; the input reads as it did. -/
def scoreSaysSpec : ChangeSpec := { name := "scoreSays", fn := fun _ => fun
  | [d1, d2, d3] => { results := [.lit (.bool true)], args := [d1, d2, d3] }
  | _ => none }
def scoreSaysRow : OpenClaim := { program := "ytilppppcafphbaagreat", sum := "9cf90b051dfd67ce23684564870589d51cfe4f30d7bf4e8471eeb9549859a191", func := "orchestrator/orchestratorlaw39.ScoreSays", spec := "scoreSays", inPlace := ["internal/bytealg.abigen_runtime_cmpstring"], unfollowed := true, recurses := true, apart := false }
def ScoreSaysSaid : Prop := scoreSaysRow.holds Tryz.pinned (OpenSpec.ofChange scoreSaysSpec)

/-- ITS FALSE NEIGHBOUR: 'it returns false'. Refute it at one input. -/
def scoreSaysWrong : ChangeSpec := { name := "scoreSays", fn := fun _ => fun
  | [d1, d2, d3] => { results := [.lit (.bool false)], args := [d1, d2, d3] }
  | _ => none }
def ScoreSaysWrongFalsely : Prop := scoreSaysRow.holds Tryz.pinned (OpenSpec.ofChange scoreSaysWrong)

/-- 'orchestratorlaw39.ScorePicks': WHATEVER THE INPUT: true; the input reads as it did. -/
def scorePicksSpec : ChangeSpec := { name := "scorePicks", fn := fun _ => fun
  | [d1, d2, d3] => { results := [.lit (.bool true)], args := [d1, d2, d3] }
  | _ => none }
def scorePicksRow : OpenClaim := { program := "ytilppppcafphbaagreat", sum := "9cf90b051dfd67ce23684564870589d51cfe4f30d7bf4e8471eeb9549859a191", func := "orchestrator/orchestratorlaw39.ScorePicks", spec := "scorePicks", inPlace := ["internal/bytealg.abigen_runtime_cmpstring"], unfollowed := true, recurses := true, apart := false }
def ScorePicksSaid : Prop := scorePicksRow.holds Tryz.pinned (OpenSpec.ofChange scorePicksSpec)

/-- ITS FALSE NEIGHBOUR: 'it returns false'. Refute it at one input. -/
def scorePicksWrong : ChangeSpec := { name := "scorePicks", fn := fun _ => fun
  | [d1, d2, d3] => { results := [.lit (.bool false)], args := [d1, d2, d3] }
  | _ => none }
def ScorePicksWrongFalsely : Prop := scorePicksRow.holds Tryz.pinned (OpenSpec.ofChange scorePicksWrong)

/-- 'orchestratorlaw39.ScoreBest': WHATEVER THE INPUT: true; the input reads as it did. -/
def scoreBestSpec : ChangeSpec := { name := "scoreBest", fn := fun _ => fun
  | [d1, d2, d3, d4] => { results := [.lit (.bool true)], args := [d1, d2, d3, d4] }
  | _ => none }
def scoreBestRow : OpenClaim := { program := "ytilppppcafphbaagreat", sum := "9cf90b051dfd67ce23684564870589d51cfe4f30d7bf4e8471eeb9549859a191", func := "orchestrator/orchestratorlaw39.ScoreBest", spec := "scoreBest", inPlace := ["internal/bytealg.abigen_runtime_cmpstring"], unfollowed := true, recurses := true, apart := false }
def ScoreBestSaid : Prop := scoreBestRow.holds Tryz.pinned (OpenSpec.ofChange scoreBestSpec)

/-- ITS FALSE NEIGHBOUR: 'it returns false'. Refute it at one input. -/
def scoreBestWrong : ChangeSpec := { name := "scoreBest", fn := fun _ => fun
  | [d1, d2, d3, d4] => { results := [.lit (.bool false)], args := [d1, d2, d3, d4] }
  | _ => none }
def ScoreBestWrongFalsely : Prop := scoreBestRow.holds Tryz.pinned (OpenSpec.ofChange scoreBestWrong)

/-- 'orchestratorlaw39.ScoreShares': WHATEVER THE INPUT: true; the input reads as it did. -/
def scoreSharesSpec : ChangeSpec := { name := "scoreShares", fn := fun _ => fun
  | [d1, d2, d3, d4] => { results := [.lit (.bool true)], args := [d1, d2, d3, d4] }
  | _ => none }
def scoreSharesRow : OpenClaim := { program := "ytilppppcafphbaagreat", sum := "9cf90b051dfd67ce23684564870589d51cfe4f30d7bf4e8471eeb9549859a191", func := "orchestrator/orchestratorlaw39.ScoreShares", spec := "scoreShares", inPlace := ["internal/bytealg.abigen_runtime_cmpstring"], unfollowed := true, recurses := true, apart := false }
def ScoreSharesSaid : Prop := scoreSharesRow.holds Tryz.pinned (OpenSpec.ofChange scoreSharesSpec)

/-- ITS FALSE NEIGHBOUR: 'it returns false'. Refute it at one input. -/
def scoreSharesWrong : ChangeSpec := { name := "scoreShares", fn := fun _ => fun
  | [d1, d2, d3, d4] => { results := [.lit (.bool false)], args := [d1, d2, d3, d4] }
  | _ => none }
def ScoreSharesWrongFalsely : Prop := scoreSharesRow.holds Tryz.pinned (OpenSpec.ofChange scoreSharesWrong)

/- THE SECOND FORM. 'bulk': how many values and letters a reading holds, each counted each time it is reached (what is shared counts as often as it is met; a slice's spare places count too). A statement '..UptoSaid' is the law's where the arguments, and the package variables that the reading takes, are together of bulk at most 1048576: NARROWER than '..Said'. Prove '..Said' where nothing that the law and all that it calls make is longer than what came in: it says more and counts as full. Else prove '..UptoSaid'. A law counts once. -/
mutual
def uptoBulk {H : Type} : DataW H → Nat
  | .lit (.string bytes) => bytes.length + 1
  | .lit _ => 1
  | .nil => 1
  | .ptr d => uptoBulk d + 1
  | .slice elems spare => uptoBulkAll elems + uptoBulkAll spare + 1
  | .agg parts => uptoBulkAll parts + 1
  | .iface _ d => uptoBulk d + 1
  | .map entries => uptoBulkEntries entries + 1
  | .held _ => 1
def uptoBulkAll {H : Type} : List (DataW H) → Nat
  | [] => 0
  | d :: r => uptoBulk d + uptoBulkAll r
def uptoBulkEntries {H : Type} : List (Lit × DataW H) → Nat
  | [] => 0
  | x :: r => uptoBulkEntry x + uptoBulkEntries r
def uptoBulkEntry {H : Type} : Lit × DataW H → Nat
  | (.string bytes, d) => bytes.length + uptoBulk d + 1
  | (_, d) => uptoBulk d + 1
 end
def uptoSmall : (H : Type) → List (DataW H) → Bool := fun _ ds => decide (uptoBulkAll ds ≤ 1048576)
def OpenSpec.upto (s : _root_.Go.ChangeSpec) : _root_.Go.OpenSpec := { _root_.Go.OpenSpec.ofChange s with cond := some uptoSmall }

/-- 'orchestratorlaw39.ScoreSays', WHERE WHAT IT READS IS OF BULK AT MOST 1048576: true; the input reads as it did. -/
def scoreSaysUptoRow : OpenClaim := { program := "ytilppppcafphbaagreat", sum := "9cf90b051dfd67ce23684564870589d51cfe4f30d7bf4e8471eeb9549859a191", func := "orchestrator/orchestratorlaw39.ScoreSays", spec := "scoreSays", inPlace := ["internal/bytealg.abigen_runtime_cmpstring"], unfollowed := true, recurses := true, apart := false, narrowed := true }
def ScoreSaysUptoSaid : Prop := scoreSaysUptoRow.holds Tryz.pinned (OpenSpec.upto scoreSaysSpec)

/-- 'orchestratorlaw39.ScorePicks', WHERE WHAT IT READS IS OF BULK AT MOST 1048576: true; the input reads as it did. -/
def scorePicksUptoRow : OpenClaim := { program := "ytilppppcafphbaagreat", sum := "9cf90b051dfd67ce23684564870589d51cfe4f30d7bf4e8471eeb9549859a191", func := "orchestrator/orchestratorlaw39.ScorePicks", spec := "scorePicks", inPlace := ["internal/bytealg.abigen_runtime_cmpstring"], unfollowed := true, recurses := true, apart := false, narrowed := true }
def ScorePicksUptoSaid : Prop := scorePicksUptoRow.holds Tryz.pinned (OpenSpec.upto scorePicksSpec)

/-- 'orchestratorlaw39.ScoreBest', WHERE WHAT IT READS IS OF BULK AT MOST 1048576: true; the input reads as it did. -/
def scoreBestUptoRow : OpenClaim := { program := "ytilppppcafphbaagreat", sum := "9cf90b051dfd67ce23684564870589d51cfe4f30d7bf4e8471eeb9549859a191", func := "orchestrator/orchestratorlaw39.ScoreBest", spec := "scoreBest", inPlace := ["internal/bytealg.abigen_runtime_cmpstring"], unfollowed := true, recurses := true, apart := false, narrowed := true }
def ScoreBestUptoSaid : Prop := scoreBestUptoRow.holds Tryz.pinned (OpenSpec.upto scoreBestSpec)

/-- 'orchestratorlaw39.ScoreShares', WHERE WHAT IT READS IS OF BULK AT MOST 1048576: true; the input reads as it did. -/
def scoreSharesUptoRow : OpenClaim := { program := "ytilppppcafphbaagreat", sum := "9cf90b051dfd67ce23684564870589d51cfe4f30d7bf4e8471eeb9549859a191", func := "orchestrator/orchestratorlaw39.ScoreShares", spec := "scoreShares", inPlace := ["internal/bytealg.abigen_runtime_cmpstring"], unfollowed := true, recurses := true, apart := false, narrowed := true }
def ScoreSharesUptoSaid : Prop := scoreSharesUptoRow.holds Tryz.pinned (OpenSpec.upto scoreSharesSpec)

end Rows
end Go.Proofs.YtilppppcafphbaaGreat
