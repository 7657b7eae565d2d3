/-
  NARROWER THAN 'FOR EVERY INPUT', by the rows' own cells (each row's printed sentence says how): PodPhase: laid · PodMakes: laid · PodOrder: laid · PodRank: laid · PodLasts: laid · PodPhases: laid.
  DERIVED. THE GIVEN ROWS OF THIS SEAT. 6 by the template 'for every input the law returns true; each argument reads behind the call as it read before'; 0 by the template 'total and deterministic' (their statements: YthnkchbcinlnnaaGreatDoorTotals.lean).
  GIVEN WITH THE SEED: the statements are not yours to turn. If you find one false, say at which input.
  Laid BY PROGRAM, IN A SANDBOX (cutbox-rows.mjs): the forced cells as the released guide's own fill.sh prints them over the translation e7cfc52e5e998f20… (all of the seat's roots in one cut). By AI agents, Wed Nov 11 2026. No macro, syntax, notation, axiom, sorry.
-/
import Derived.Test.YthnkchbcinlnnaaGreatDoorChecked
import GoSem.Claim
import GoSem.ClaimJoined
import GoSem.ClaimMapViews
import Derived.JoinedTies
import Derived.KernelRfl
namespace Go.Proofs.YthnkchbcinlnnaaGreatDoor
/- THE CELL 'sum', in the pinned program and in every row, IS THE sha256 OF THE DUMP (.gsa) THAT YthnkchbcinlnnaaGreatDoorProg.lean LOADS. Nothing in Lean hashes anything: it is a label: what it is worth is what the hold of that sum in a sandbox is worth. -/
noncomputable def Tryz.pinned : Pinned := { name := "ythnkchbcinlnnaagreatdoor", sum := "e7cfc52e5e998f201b8aad0f8eca08918104191b209581bdd1da05a94b2d0cb6", checked := Tryz.checked }
namespace Rows
def none {H : Type} : Left H := { results := [], args := [] }

/- WHAT THE LISTED PACKAGE-LEVEL VARIABLES READ AS WHEN THE CALL BEGINS. Each datum BY PROGRAM (the guide's laid-datum.mjs) off the statement by which the dump's own 'gosem.cut.vars' lays the variable. In a bare row this is a premise. The card (YthnkchbcinlnnaaGreatDoorCards.lean) ties it to the program's text. -/
def laid_math_bits_deBruijn32tab {H : Type} : DataW H := .agg [.lit (.int .u8 0), .lit (.int .u8 1), .lit (.int .u8 28), .lit (.int .u8 2), .lit (.int .u8 29), .lit (.int .u8 14), .lit (.int .u8 24), .lit (.int .u8 3), .lit (.int .u8 30), .lit (.int .u8 22), .lit (.int .u8 20), .lit (.int .u8 15), .lit (.int .u8 25), .lit (.int .u8 17), .lit (.int .u8 4), .lit (.int .u8 8), .lit (.int .u8 31), .lit (.int .u8 27), .lit (.int .u8 13), .lit (.int .u8 23), .lit (.int .u8 21), .lit (.int .u8 19), .lit (.int .u8 16), .lit (.int .u8 7), .lit (.int .u8 26), .lit (.int .u8 12), .lit (.int .u8 18), .lit (.int .u8 6), .lit (.int .u8 11), .lit (.int .u8 5), .lit (.int .u8 10), .lit (.int .u8 9)]
def laid_math_bits_deBruijn64tab {H : Type} : DataW H := .agg [.lit (.int .u8 0), .lit (.int .u8 1), .lit (.int .u8 56), .lit (.int .u8 2), .lit (.int .u8 57), .lit (.int .u8 49), .lit (.int .u8 28), .lit (.int .u8 3), .lit (.int .u8 61), .lit (.int .u8 58), .lit (.int .u8 42), .lit (.int .u8 50), .lit (.int .u8 38), .lit (.int .u8 29), .lit (.int .u8 17), .lit (.int .u8 4), .lit (.int .u8 62), .lit (.int .u8 47), .lit (.int .u8 59), .lit (.int .u8 36), .lit (.int .u8 45), .lit (.int .u8 43), .lit (.int .u8 51), .lit (.int .u8 22), .lit (.int .u8 53), .lit (.int .u8 39), .lit (.int .u8 33), .lit (.int .u8 30), .lit (.int .u8 24), .lit (.int .u8 18), .lit (.int .u8 12), .lit (.int .u8 5), .lit (.int .u8 63), .lit (.int .u8 55), .lit (.int .u8 48), .lit (.int .u8 27), .lit (.int .u8 60), .lit (.int .u8 41), .lit (.int .u8 37), .lit (.int .u8 16), .lit (.int .u8 46), .lit (.int .u8 35), .lit (.int .u8 44), .lit (.int .u8 21), .lit (.int .u8 52), .lit (.int .u8 32), .lit (.int .u8 23), .lit (.int .u8 11), .lit (.int .u8 54), .lit (.int .u8 26), .lit (.int .u8 40), .lit (.int .u8 15), .lit (.int .u8 34), .lit (.int .u8 20), .lit (.int .u8 31), .lit (.int .u8 10), .lit (.int .u8 25), .lit (.int .u8 14), .lit (.int .u8 19), .lit (.int .u8 9), .lit (.int .u8 13), .lit (.int .u8 8), .lit (.int .u8 7), .lit (.int .u8 6)]
def laid_internal_strconv_uint64pow10 {H : Type} : DataW H := .agg [.lit (.int .u64 1), .lit (.int .u64 10), .lit (.int .u64 100), .lit (.int .u64 1000), .lit (.int .u64 10000), .lit (.int .u64 100000), .lit (.int .u64 1000000), .lit (.int .u64 10000000), .lit (.int .u64 100000000), .lit (.int .u64 1000000000), .lit (.int .u64 10000000000), .lit (.int .u64 100000000000), .lit (.int .u64 1000000000000), .lit (.int .u64 10000000000000), .lit (.int .u64 100000000000000), .lit (.int .u64 1000000000000000), .lit (.int .u64 10000000000000000), .lit (.int .u64 100000000000000000), .lit (.int .u64 1000000000000000000), .lit (.int .u64 10000000000000000000)]

/-- 'orchestratorlaw33.PodPhase': WHATEVER THE INPUT: true; the input reads as it did. -/
def podPhaseSpec : ChangeSpec := { name := "podPhase", fn := fun _ => fun
  | [d1, d2, d3, d4, d5] => { results := [.lit (.bool true)], args := [d1, d2, d3, d4, d5] }
  | _ => none }
def podPhaseRow : OpenClaim := { program := "ythnkchbcinlnnaagreatdoor", sum := "e7cfc52e5e998f201b8aad0f8eca08918104191b209581bdd1da05a94b2d0cb6", func := "orchestrator/orchestratorlaw33.PodPhase", spec := "podPhase", inPlace := ["internal/bytealg.abigen_runtime_cmpstring", "internal/abi.NoEscape", "slices.overlaps[orchestrator/api.Label]"], unfollowed := true, recurses := true, named := ["internal/strconv.uint64pow10", "math/bits.deBruijn32tab", "math/bits.deBruijn64tab"], apart := false, laid := [("math/bits.deBruijn32tab", laid_math_bits_deBruijn32tab), ("math/bits.deBruijn64tab", laid_math_bits_deBruijn64tab), ("internal/strconv.uint64pow10", laid_internal_strconv_uint64pow10)] }
def PodPhaseSaid : Prop := podPhaseRow.holds Tryz.pinned (OpenSpec.ofChange podPhaseSpec)

/-- ITS FALSE NEIGHBOUR: 'it returns false'. Refute it at one input. -/
def podPhaseWrong : ChangeSpec := { name := "podPhase", fn := fun _ => fun
  | [d1, d2, d3, d4, d5] => { results := [.lit (.bool false)], args := [d1, d2, d3, d4, d5] }
  | _ => none }
def PodPhaseWrongFalsely : Prop := podPhaseRow.holds Tryz.pinned (OpenSpec.ofChange podPhaseWrong)

/-- 'orchestratorlaw33.PodMakes': WHATEVER THE INPUT: true; the input reads as it did. -/
def podMakesSpec : ChangeSpec := { name := "podMakes", fn := fun _ => fun
  | [d1, d2, d3, d4] => { results := [.lit (.bool true)], args := [d1, d2, d3, d4] }
  | _ => none }
def podMakesRow : OpenClaim := { program := "ythnkchbcinlnnaagreatdoor", sum := "e7cfc52e5e998f201b8aad0f8eca08918104191b209581bdd1da05a94b2d0cb6", func := "orchestrator/orchestratorlaw33.PodMakes", spec := "podMakes", inPlace := ["internal/bytealg.abigen_runtime_cmpstring", "internal/abi.NoEscape", "slices.overlaps[orchestrator/api.Label]"], unfollowed := true, recurses := true, named := ["internal/strconv.uint64pow10", "math/bits.deBruijn32tab", "math/bits.deBruijn64tab"], apart := false, laid := [("math/bits.deBruijn32tab", laid_math_bits_deBruijn32tab), ("math/bits.deBruijn64tab", laid_math_bits_deBruijn64tab), ("internal/strconv.uint64pow10", laid_internal_strconv_uint64pow10)] }
def PodMakesSaid : Prop := podMakesRow.holds Tryz.pinned (OpenSpec.ofChange podMakesSpec)

/-- ITS FALSE NEIGHBOUR: 'it returns false'. Refute it at one input. -/
def podMakesWrong : ChangeSpec := { name := "podMakes", fn := fun _ => fun
  | [d1, d2, d3, d4] => { results := [.lit (.bool false)], args := [d1, d2, d3, d4] }
  | _ => none }
def PodMakesWrongFalsely : Prop := podMakesRow.holds Tryz.pinned (OpenSpec.ofChange podMakesWrong)

/-- 'orchestratorlaw33.PodOrder': WHATEVER THE INPUT: true; the input reads as it did. -/
def podOrderSpec : ChangeSpec := { name := "podOrder", fn := fun _ => fun
  | [d1, d2] => { results := [.lit (.bool true)], args := [d1, d2] }
  | _ => none }
def podOrderRow : OpenClaim := { program := "ythnkchbcinlnnaagreatdoor", sum := "e7cfc52e5e998f201b8aad0f8eca08918104191b209581bdd1da05a94b2d0cb6", func := "orchestrator/orchestratorlaw33.PodOrder", spec := "podOrder", inPlace := ["internal/bytealg.abigen_runtime_cmpstring", "internal/abi.NoEscape", "slices.overlaps[orchestrator/api.Label]"], unfollowed := true, recurses := true, named := ["internal/strconv.uint64pow10", "math/bits.deBruijn32tab", "math/bits.deBruijn64tab"], apart := false, laid := [("math/bits.deBruijn32tab", laid_math_bits_deBruijn32tab), ("math/bits.deBruijn64tab", laid_math_bits_deBruijn64tab), ("internal/strconv.uint64pow10", laid_internal_strconv_uint64pow10)] }
def PodOrderSaid : Prop := podOrderRow.holds Tryz.pinned (OpenSpec.ofChange podOrderSpec)

/-- ITS FALSE NEIGHBOUR: 'it returns false'. Refute it at one input. -/
def podOrderWrong : ChangeSpec := { name := "podOrder", fn := fun _ => fun
  | [d1, d2] => { results := [.lit (.bool false)], args := [d1, d2] }
  | _ => none }
def PodOrderWrongFalsely : Prop := podOrderRow.holds Tryz.pinned (OpenSpec.ofChange podOrderWrong)

/-- 'orchestratorlaw33.PodRank': WHATEVER THE INPUT: true; the input reads as it did. -/
def podRankSpec : ChangeSpec := { name := "podRank", fn := fun _ => fun
  | [d1, d2, d3] => { results := [.lit (.bool true)], args := [d1, d2, d3] }
  | _ => none }
def podRankRow : OpenClaim := { program := "ythnkchbcinlnnaagreatdoor", sum := "e7cfc52e5e998f201b8aad0f8eca08918104191b209581bdd1da05a94b2d0cb6", func := "orchestrator/orchestratorlaw33.PodRank", spec := "podRank", inPlace := ["internal/bytealg.abigen_runtime_cmpstring", "internal/abi.NoEscape", "slices.overlaps[orchestrator/api.Label]"], unfollowed := true, recurses := true, named := ["internal/strconv.uint64pow10", "math/bits.deBruijn32tab", "math/bits.deBruijn64tab"], apart := false, laid := [("math/bits.deBruijn32tab", laid_math_bits_deBruijn32tab), ("math/bits.deBruijn64tab", laid_math_bits_deBruijn64tab), ("internal/strconv.uint64pow10", laid_internal_strconv_uint64pow10)] }
def PodRankSaid : Prop := podRankRow.holds Tryz.pinned (OpenSpec.ofChange podRankSpec)

/-- ITS FALSE NEIGHBOUR: 'it returns false'. Refute it at one input. -/
def podRankWrong : ChangeSpec := { name := "podRank", fn := fun _ => fun
  | [d1, d2, d3] => { results := [.lit (.bool false)], args := [d1, d2, d3] }
  | _ => none }
def PodRankWrongFalsely : Prop := podRankRow.holds Tryz.pinned (OpenSpec.ofChange podRankWrong)

/-- 'orchestratorlaw33.PodLasts': WHATEVER THE INPUT: true; the input reads as it did. -/
def podLastsSpec : ChangeSpec := { name := "podLasts", fn := fun _ => fun
  | [d1, d2, d3, d4, d5] => { results := [.lit (.bool true)], args := [d1, d2, d3, d4, d5] }
  | _ => none }
def podLastsRow : OpenClaim := { program := "ythnkchbcinlnnaagreatdoor", sum := "e7cfc52e5e998f201b8aad0f8eca08918104191b209581bdd1da05a94b2d0cb6", func := "orchestrator/orchestratorlaw33.PodLasts", spec := "podLasts", inPlace := ["internal/bytealg.abigen_runtime_cmpstring", "internal/abi.NoEscape", "slices.overlaps[orchestrator/api.Label]"], unfollowed := true, recurses := true, named := ["internal/strconv.uint64pow10", "math/bits.deBruijn32tab", "math/bits.deBruijn64tab"], apart := false, laid := [("math/bits.deBruijn32tab", laid_math_bits_deBruijn32tab), ("math/bits.deBruijn64tab", laid_math_bits_deBruijn64tab), ("internal/strconv.uint64pow10", laid_internal_strconv_uint64pow10)] }
def PodLastsSaid : Prop := podLastsRow.holds Tryz.pinned (OpenSpec.ofChange podLastsSpec)

/-- ITS FALSE NEIGHBOUR: 'it returns false'. Refute it at one input. -/
def podLastsWrong : ChangeSpec := { name := "podLasts", fn := fun _ => fun
  | [d1, d2, d3, d4, d5] => { results := [.lit (.bool false)], args := [d1, d2, d3, d4, d5] }
  | _ => none }
def PodLastsWrongFalsely : Prop := podLastsRow.holds Tryz.pinned (OpenSpec.ofChange podLastsWrong)

/-- 'orchestratorlaw33.PodPhases': WHATEVER THE INPUT: true; the input reads as it did. -/
def podPhasesSpec : ChangeSpec := { name := "podPhases", fn := fun _ => fun
  | [d1, d2] => { results := [.lit (.bool true)], args := [d1, d2] }
  | _ => none }
def podPhasesRow : OpenClaim := { program := "ythnkchbcinlnnaagreatdoor", sum := "e7cfc52e5e998f201b8aad0f8eca08918104191b209581bdd1da05a94b2d0cb6", func := "orchestrator/orchestratorlaw33.PodPhases", spec := "podPhases", inPlace := ["internal/bytealg.abigen_runtime_cmpstring", "internal/abi.NoEscape", "slices.overlaps[orchestrator/api.Label]"], unfollowed := true, recurses := true, named := ["internal/strconv.uint64pow10", "math/bits.deBruijn32tab", "math/bits.deBruijn64tab"], apart := false, laid := [("math/bits.deBruijn32tab", laid_math_bits_deBruijn32tab), ("math/bits.deBruijn64tab", laid_math_bits_deBruijn64tab), ("internal/strconv.uint64pow10", laid_internal_strconv_uint64pow10)] }
def PodPhasesSaid : Prop := podPhasesRow.holds Tryz.pinned (OpenSpec.ofChange podPhasesSpec)

/-- ITS FALSE NEIGHBOUR: 'it returns false'. Refute it at one input. -/
def podPhasesWrong : ChangeSpec := { name := "podPhases", fn := fun _ => fun
  | [d1, d2] => { results := [.lit (.bool false)], args := [d1, d2] }
  | _ => none }
def PodPhasesWrongFalsely : Prop := podPhasesRow.holds Tryz.pinned (OpenSpec.ofChange podPhasesWrong)

/- THE SECOND FORM. 'bulk': how many values and letters a reading holds, each counted each time it is reached (what is shared counts as often as it is met; a slice's spare places count too). A statement '..UptoSaid' is the law's where the arguments, and the package variables that the reading takes, are together of bulk at most 1048576: NARROWER than '..Said'. Prove '..Said' where nothing that the law and all that it calls make is longer than what came in: it says more and counts as full. Else prove '..UptoSaid'. A law counts once. -/
mutual
def uptoBulk {H : Type} : DataW H → Nat
  | .lit (.string bytes) => bytes.length + 1
  | .lit _ => 1
  | .nil => 1
  | .ptr d => uptoBulk d + 1
  | .slice elems spare => uptoBulkAll elems + uptoBulkAll spare + 1
  | .agg parts => uptoBulkAll parts + 1
  | .iface _ d => uptoBulk d + 1
  | .map entries => uptoBulkEntries entries + 1
  | .held _ => 1
def uptoBulkAll {H : Type} : List (DataW H) → Nat
  | [] => 0
  | d :: r => uptoBulk d + uptoBulkAll r
def uptoBulkEntries {H : Type} : List (Lit × DataW H) → Nat
  | [] => 0
  | x :: r => uptoBulkEntry x + uptoBulkEntries r
def uptoBulkEntry {H : Type} : Lit × DataW H → Nat
  | (.string bytes, d) => bytes.length + uptoBulk d + 1
  | (_, d) => uptoBulk d + 1
 end
def uptoSmall : (H : Type) → List (DataW H) → Bool := fun _ ds => decide (uptoBulkAll ds ≤ 1048576)
def OpenSpec.upto (s : _root_.Go.ChangeSpec) : _root_.Go.OpenSpec := { _root_.Go.OpenSpec.ofChange s with cond := some uptoSmall }

/-- 'orchestratorlaw33.PodPhase', WHERE WHAT IT READS IS OF BULK AT MOST 1048576: true; the input reads as it did. -/
def podPhaseUptoRow : OpenClaim := { program := "ythnkchbcinlnnaagreatdoor", sum := "e7cfc52e5e998f201b8aad0f8eca08918104191b209581bdd1da05a94b2d0cb6", func := "orchestrator/orchestratorlaw33.PodPhase", spec := "podPhase", inPlace := ["internal/bytealg.abigen_runtime_cmpstring", "internal/abi.NoEscape", "slices.overlaps[orchestrator/api.Label]"], unfollowed := true, recurses := true, named := ["internal/strconv.uint64pow10", "math/bits.deBruijn32tab", "math/bits.deBruijn64tab"], apart := false, laid := [("math/bits.deBruijn32tab", laid_math_bits_deBruijn32tab), ("math/bits.deBruijn64tab", laid_math_bits_deBruijn64tab), ("internal/strconv.uint64pow10", laid_internal_strconv_uint64pow10)], narrowed := true }
def PodPhaseUptoSaid : Prop := podPhaseUptoRow.holds Tryz.pinned (OpenSpec.upto podPhaseSpec)

/-- 'orchestratorlaw33.PodMakes', WHERE WHAT IT READS IS OF BULK AT MOST 1048576: true; the input reads as it did. -/
def podMakesUptoRow : OpenClaim := { program := "ythnkchbcinlnnaagreatdoor", sum := "e7cfc52e5e998f201b8aad0f8eca08918104191b209581bdd1da05a94b2d0cb6", func := "orchestrator/orchestratorlaw33.PodMakes", spec := "podMakes", inPlace := ["internal/bytealg.abigen_runtime_cmpstring", "internal/abi.NoEscape", "slices.overlaps[orchestrator/api.Label]"], unfollowed := true, recurses := true, named := ["internal/strconv.uint64pow10", "math/bits.deBruijn32tab", "math/bits.deBruijn64tab"], apart := false, laid := [("math/bits.deBruijn32tab", laid_math_bits_deBruijn32tab), ("math/bits.deBruijn64tab", laid_math_bits_deBruijn64tab), ("internal/strconv.uint64pow10", laid_internal_strconv_uint64pow10)], narrowed := true }
def PodMakesUptoSaid : Prop := podMakesUptoRow.holds Tryz.pinned (OpenSpec.upto podMakesSpec)

/-- 'orchestratorlaw33.PodOrder', WHERE WHAT IT READS IS OF BULK AT MOST 1048576: true; the input reads as it did. -/
def podOrderUptoRow : OpenClaim := { program := "ythnkchbcinlnnaagreatdoor", sum := "e7cfc52e5e998f201b8aad0f8eca08918104191b209581bdd1da05a94b2d0cb6", func := "orchestrator/orchestratorlaw33.PodOrder", spec := "podOrder", inPlace := ["internal/bytealg.abigen_runtime_cmpstring", "internal/abi.NoEscape", "slices.overlaps[orchestrator/api.Label]"], unfollowed := true, recurses := true, named := ["internal/strconv.uint64pow10", "math/bits.deBruijn32tab", "math/bits.deBruijn64tab"], apart := false, laid := [("math/bits.deBruijn32tab", laid_math_bits_deBruijn32tab), ("math/bits.deBruijn64tab", laid_math_bits_deBruijn64tab), ("internal/strconv.uint64pow10", laid_internal_strconv_uint64pow10)], narrowed := true }
def PodOrderUptoSaid : Prop := podOrderUptoRow.holds Tryz.pinned (OpenSpec.upto podOrderSpec)

/-- 'orchestratorlaw33.PodRank', WHERE WHAT IT READS IS OF BULK AT MOST 1048576: true; the input reads as it did. -/
def podRankUptoRow : OpenClaim := { program := "ythnkchbcinlnnaagreatdoor", sum := "e7cfc52e5e998f201b8aad0f8eca08918104191b209581bdd1da05a94b2d0cb6", func := "orchestrator/orchestratorlaw33.PodRank", spec := "podRank", inPlace := ["internal/bytealg.abigen_runtime_cmpstring", "internal/abi.NoEscape", "slices.overlaps[orchestrator/api.Label]"], unfollowed := true, recurses := true, named := ["internal/strconv.uint64pow10", "math/bits.deBruijn32tab", "math/bits.deBruijn64tab"], apart := false, laid := [("math/bits.deBruijn32tab", laid_math_bits_deBruijn32tab), ("math/bits.deBruijn64tab", laid_math_bits_deBruijn64tab), ("internal/strconv.uint64pow10", laid_internal_strconv_uint64pow10)], narrowed := true }
def PodRankUptoSaid : Prop := podRankUptoRow.holds Tryz.pinned (OpenSpec.upto podRankSpec)

/-- 'orchestratorlaw33.PodLasts', WHERE WHAT IT READS IS OF BULK AT MOST 1048576: true; the input reads as it did. -/
def podLastsUptoRow : OpenClaim := { program := "ythnkchbcinlnnaagreatdoor", sum := "e7cfc52e5e998f201b8aad0f8eca08918104191b209581bdd1da05a94b2d0cb6", func := "orchestrator/orchestratorlaw33.PodLasts", spec := "podLasts", inPlace := ["internal/bytealg.abigen_runtime_cmpstring", "internal/abi.NoEscape", "slices.overlaps[orchestrator/api.Label]"], unfollowed := true, recurses := true, named := ["internal/strconv.uint64pow10", "math/bits.deBruijn32tab", "math/bits.deBruijn64tab"], apart := false, laid := [("math/bits.deBruijn32tab", laid_math_bits_deBruijn32tab), ("math/bits.deBruijn64tab", laid_math_bits_deBruijn64tab), ("internal/strconv.uint64pow10", laid_internal_strconv_uint64pow10)], narrowed := true }
def PodLastsUptoSaid : Prop := podLastsUptoRow.holds Tryz.pinned (OpenSpec.upto podLastsSpec)

/-- 'orchestratorlaw33.PodPhases', WHERE WHAT IT READS IS OF BULK AT MOST 1048576: true; the input reads as it did. -/
def podPhasesUptoRow : OpenClaim := { program := "ythnkchbcinlnnaagreatdoor", sum := "e7cfc52e5e998f201b8aad0f8eca08918104191b209581bdd1da05a94b2d0cb6", func := "orchestrator/orchestratorlaw33.PodPhases", spec := "podPhases", inPlace := ["internal/bytealg.abigen_runtime_cmpstring", "internal/abi.NoEscape", "slices.overlaps[orchestrator/api.Label]"], unfollowed := true, recurses := true, named := ["internal/strconv.uint64pow10", "math/bits.deBruijn32tab", "math/bits.deBruijn64tab"], apart := false, laid := [("math/bits.deBruijn32tab", laid_math_bits_deBruijn32tab), ("math/bits.deBruijn64tab", laid_math_bits_deBruijn64tab), ("internal/strconv.uint64pow10", laid_internal_strconv_uint64pow10)], narrowed := true }
def PodPhasesUptoSaid : Prop := podPhasesUptoRow.holds Tryz.pinned (OpenSpec.upto podPhasesSpec)

end Rows
end Go.Proofs.YthnkchbcinlnnaaGreatDoor
