/-
  DERIVED. GIVEN WITH THE SEED: THE CARDS: each row of YtolackmpfnndhaaGreatDoorRows.lean that lists a variable, with what it lists TIED to the program's text (the seventh form; the later family's looks); each row that meets fmt, with fmt's text TOLD by the authors' own Lean function (tested against real Go, not proved from fmt's source: count such statements apart). THE CARD IS WHAT COUNTS. Prove the row's statement (the work); the ties are given (YtolackmpfnndhaaGreatDoorTie.lean); close each card by the builder's one call (the guide's Derived/Test/ToyasCard.lean, 'card_holds'). Laid BY PROGRAM, IN A SANDBOX (cutbox-door.mjs). By AI agents, Wed Nov 11 2026. No macro, syntax, notation, axiom, sorry.
-/
import Derived.Test.YtolackmpfnndhaaGreatDoorRows
import GoSem.ClaimSeven
namespace Go.Proofs.YtolackmpfnndhaaGreatDoor
namespace Rows

/-- THE TIED CARD OF 'orchestratorlaw47.StatefulsetPlans'. -/
def statefulsetPlansCard : Claim7 := { stood := { row := statefulsetPlansRow, standIns := [], harness := (true, "a45185a0bfc3d76740339e2d56131d9f7d7ea657b329c46a942dc9aa6816d384"), looks := false }, kinds := [], alts := [], laidByText := true, laidKinds := [.data, .data, .data], laidTests := true, laidLooks := .later }
def StatefulsetPlansCardSaid : Prop := Claim7.holds Tryz.pinned (.plain (OpenSpec.ofChange statefulsetPlansSpec)) statefulsetPlansCard

/-- THE TIED CARD OF 'orchestratorlaw47.StatefulsetCounts'. -/
def statefulsetCountsCard : Claim7 := { stood := { row := statefulsetCountsRow, standIns := [], harness := (true, "a45185a0bfc3d76740339e2d56131d9f7d7ea657b329c46a942dc9aa6816d384"), looks := false }, kinds := [], alts := [], laidByText := true, laidKinds := [.data, .data, .data], laidTests := true, laidLooks := .later }
def StatefulsetCountsCardSaid : Prop := Claim7.holds Tryz.pinned (.plain (OpenSpec.ofChange statefulsetCountsSpec)) statefulsetCountsCard

/-- THE TIED CARD OF 'orchestratorlaw47.StatefulsetOrder'. -/
def statefulsetOrderCard : Claim7 := { stood := { row := statefulsetOrderRow, standIns := [], harness := (true, "a45185a0bfc3d76740339e2d56131d9f7d7ea657b329c46a942dc9aa6816d384"), looks := false }, kinds := [], alts := [], laidByText := true, laidKinds := [.data, .data, .data], laidTests := true, laidLooks := .later }
def StatefulsetOrderCardSaid : Prop := Claim7.holds Tryz.pinned (.plain (OpenSpec.ofChange statefulsetOrderSpec)) statefulsetOrderCard

/-- THE TIED CARD OF 'orchestratorlaw47.StatefulsetScales'. -/
def statefulsetScalesCard : Claim7 := { stood := { row := statefulsetScalesRow, standIns := [], harness := (true, "a45185a0bfc3d76740339e2d56131d9f7d7ea657b329c46a942dc9aa6816d384"), looks := false }, kinds := [], alts := [], laidByText := true, laidKinds := [.data, .data, .data], laidTests := true, laidLooks := .later }
def StatefulsetScalesCardSaid : Prop := Claim7.holds Tryz.pinned (.plain (OpenSpec.ofChange statefulsetScalesSpec)) statefulsetScalesCard

/-- THE TIED CARD OF 'orchestratorlaw47.StatefulsetConverges'. -/
def statefulsetConvergesCard : Claim7 := { stood := { row := statefulsetConvergesRow, standIns := [], harness := (true, "a45185a0bfc3d76740339e2d56131d9f7d7ea657b329c46a942dc9aa6816d384"), looks := false }, kinds := [], alts := [], laidByText := true, laidKinds := [.data, .data, .data], laidTests := true, laidLooks := .later }
def StatefulsetConvergesCardSaid : Prop := Claim7.holds Tryz.pinned (.plain (OpenSpec.ofChange statefulsetConvergesSpec)) statefulsetConvergesCard

/-- THE SECOND FORM's CARD OF 'orchestratorlaw47.StatefulsetPlans'. -/
def statefulsetPlansUptoCard : Claim7 := { stood := { row := statefulsetPlansUptoRow, standIns := [], harness := (true, "a45185a0bfc3d76740339e2d56131d9f7d7ea657b329c46a942dc9aa6816d384"), looks := false }, kinds := [], alts := [], laidByText := true, laidKinds := [.data, .data, .data], laidTests := true, laidLooks := .later }
def StatefulsetPlansUptoCardSaid : Prop := Claim7.holds Tryz.pinned (.plain (OpenSpec.upto statefulsetPlansSpec)) statefulsetPlansUptoCard

/-- THE SECOND FORM's CARD OF 'orchestratorlaw47.StatefulsetCounts'. -/
def statefulsetCountsUptoCard : Claim7 := { stood := { row := statefulsetCountsUptoRow, standIns := [], harness := (true, "a45185a0bfc3d76740339e2d56131d9f7d7ea657b329c46a942dc9aa6816d384"), looks := false }, kinds := [], alts := [], laidByText := true, laidKinds := [.data, .data, .data], laidTests := true, laidLooks := .later }
def StatefulsetCountsUptoCardSaid : Prop := Claim7.holds Tryz.pinned (.plain (OpenSpec.upto statefulsetCountsSpec)) statefulsetCountsUptoCard

/-- THE SECOND FORM's CARD OF 'orchestratorlaw47.StatefulsetOrder'. -/
def statefulsetOrderUptoCard : Claim7 := { stood := { row := statefulsetOrderUptoRow, standIns := [], harness := (true, "a45185a0bfc3d76740339e2d56131d9f7d7ea657b329c46a942dc9aa6816d384"), looks := false }, kinds := [], alts := [], laidByText := true, laidKinds := [.data, .data, .data], laidTests := true, laidLooks := .later }
def StatefulsetOrderUptoCardSaid : Prop := Claim7.holds Tryz.pinned (.plain (OpenSpec.upto statefulsetOrderSpec)) statefulsetOrderUptoCard

/-- THE SECOND FORM's CARD OF 'orchestratorlaw47.StatefulsetScales'. -/
def statefulsetScalesUptoCard : Claim7 := { stood := { row := statefulsetScalesUptoRow, standIns := [], harness := (true, "a45185a0bfc3d76740339e2d56131d9f7d7ea657b329c46a942dc9aa6816d384"), looks := false }, kinds := [], alts := [], laidByText := true, laidKinds := [.data, .data, .data], laidTests := true, laidLooks := .later }
def StatefulsetScalesUptoCardSaid : Prop := Claim7.holds Tryz.pinned (.plain (OpenSpec.upto statefulsetScalesSpec)) statefulsetScalesUptoCard

/-- THE SECOND FORM's CARD OF 'orchestratorlaw47.StatefulsetConverges'. -/
def statefulsetConvergesUptoCard : Claim7 := { stood := { row := statefulsetConvergesUptoRow, standIns := [], harness := (true, "a45185a0bfc3d76740339e2d56131d9f7d7ea657b329c46a942dc9aa6816d384"), looks := false }, kinds := [], alts := [], laidByText := true, laidKinds := [.data, .data, .data], laidTests := true, laidLooks := .later }
def StatefulsetConvergesUptoCardSaid : Prop := Claim7.holds Tryz.pinned (.plain (OpenSpec.upto statefulsetConvergesSpec)) statefulsetConvergesUptoCard
end Rows
end Go.Proofs.YtolackmpfnndhaaGreatDoor
