/-
  DERIVED. GIVEN WITH THE SEED: THE CARDS: each row of YthnkchbcinlnnaaGreatDoorRows.lean that lists a variable, with what it lists TIED to the program's text (the seventh form; the later family's looks); each row that meets fmt, with fmt's text TOLD by the authors' own Lean function (tested against real Go, not proved from fmt's source: count such statements apart). THE CARD IS WHAT COUNTS. Prove the row's statement (the work); the ties are given (YthnkchbcinlnnaaGreatDoorTie.lean); close each card by the builder's one call (the guide's Derived/Test/ToyasCard.lean, 'card_holds'). Laid BY PROGRAM, IN A SANDBOX (cutbox-door.mjs). By AI agents, Wed Nov 11 2026. No macro, syntax, notation, axiom, sorry.
-/
import Derived.Test.YthnkchbcinlnnaaGreatDoorRows
import GoSem.ClaimSeven
namespace Go.Proofs.YthnkchbcinlnnaaGreatDoor
namespace Rows

/-- THE TIED CARD OF 'orchestratorlaw33.PodPhase'. -/
def podPhaseCard : Claim7 := { stood := { row := podPhaseRow, standIns := [], harness := (true, "52ee5be85e7ebfd0c2521c273585162b0225cf8dea775cb27966998cac3c948f"), looks := false }, kinds := [], alts := [], laidByText := true, laidKinds := [.data, .data, .data], laidTests := true, laidLooks := .later }
def PodPhaseCardSaid : Prop := Claim7.holds Tryz.pinned (.plain (OpenSpec.ofChange podPhaseSpec)) podPhaseCard

/-- THE TIED CARD OF 'orchestratorlaw33.PodMakes'. -/
def podMakesCard : Claim7 := { stood := { row := podMakesRow, standIns := [], harness := (true, "52ee5be85e7ebfd0c2521c273585162b0225cf8dea775cb27966998cac3c948f"), looks := false }, kinds := [], alts := [], laidByText := true, laidKinds := [.data, .data, .data], laidTests := true, laidLooks := .later }
def PodMakesCardSaid : Prop := Claim7.holds Tryz.pinned (.plain (OpenSpec.ofChange podMakesSpec)) podMakesCard

/-- THE TIED CARD OF 'orchestratorlaw33.PodOrder'. -/
def podOrderCard : Claim7 := { stood := { row := podOrderRow, standIns := [], harness := (true, "52ee5be85e7ebfd0c2521c273585162b0225cf8dea775cb27966998cac3c948f"), looks := false }, kinds := [], alts := [], laidByText := true, laidKinds := [.data, .data, .data], laidTests := true, laidLooks := .later }
def PodOrderCardSaid : Prop := Claim7.holds Tryz.pinned (.plain (OpenSpec.ofChange podOrderSpec)) podOrderCard

/-- THE TIED CARD OF 'orchestratorlaw33.PodRank'. -/
def podRankCard : Claim7 := { stood := { row := podRankRow, standIns := [], harness := (true, "52ee5be85e7ebfd0c2521c273585162b0225cf8dea775cb27966998cac3c948f"), looks := false }, kinds := [], alts := [], laidByText := true, laidKinds := [.data, .data, .data], laidTests := true, laidLooks := .later }
def PodRankCardSaid : Prop := Claim7.holds Tryz.pinned (.plain (OpenSpec.ofChange podRankSpec)) podRankCard

/-- THE TIED CARD OF 'orchestratorlaw33.PodLasts'. -/
def podLastsCard : Claim7 := { stood := { row := podLastsRow, standIns := [], harness := (true, "52ee5be85e7ebfd0c2521c273585162b0225cf8dea775cb27966998cac3c948f"), looks := false }, kinds := [], alts := [], laidByText := true, laidKinds := [.data, .data, .data], laidTests := true, laidLooks := .later }
def PodLastsCardSaid : Prop := Claim7.holds Tryz.pinned (.plain (OpenSpec.ofChange podLastsSpec)) podLastsCard

/-- THE TIED CARD OF 'orchestratorlaw33.PodPhases'. -/
def podPhasesCard : Claim7 := { stood := { row := podPhasesRow, standIns := [], harness := (true, "52ee5be85e7ebfd0c2521c273585162b0225cf8dea775cb27966998cac3c948f"), looks := false }, kinds := [], alts := [], laidByText := true, laidKinds := [.data, .data, .data], laidTests := true, laidLooks := .later }
def PodPhasesCardSaid : Prop := Claim7.holds Tryz.pinned (.plain (OpenSpec.ofChange podPhasesSpec)) podPhasesCard

/-- THE SECOND FORM's CARD OF 'orchestratorlaw33.PodPhase'. -/
def podPhaseUptoCard : Claim7 := { stood := { row := podPhaseUptoRow, standIns := [], harness := (true, "52ee5be85e7ebfd0c2521c273585162b0225cf8dea775cb27966998cac3c948f"), looks := false }, kinds := [], alts := [], laidByText := true, laidKinds := [.data, .data, .data], laidTests := true, laidLooks := .later }
def PodPhaseUptoCardSaid : Prop := Claim7.holds Tryz.pinned (.plain (OpenSpec.upto podPhaseSpec)) podPhaseUptoCard

/-- THE SECOND FORM's CARD OF 'orchestratorlaw33.PodMakes'. -/
def podMakesUptoCard : Claim7 := { stood := { row := podMakesUptoRow, standIns := [], harness := (true, "52ee5be85e7ebfd0c2521c273585162b0225cf8dea775cb27966998cac3c948f"), looks := false }, kinds := [], alts := [], laidByText := true, laidKinds := [.data, .data, .data], laidTests := true, laidLooks := .later }
def PodMakesUptoCardSaid : Prop := Claim7.holds Tryz.pinned (.plain (OpenSpec.upto podMakesSpec)) podMakesUptoCard

/-- THE SECOND FORM's CARD OF 'orchestratorlaw33.PodOrder'. -/
def podOrderUptoCard : Claim7 := { stood := { row := podOrderUptoRow, standIns := [], harness := (true, "52ee5be85e7ebfd0c2521c273585162b0225cf8dea775cb27966998cac3c948f"), looks := false }, kinds := [], alts := [], laidByText := true, laidKinds := [.data, .data, .data], laidTests := true, laidLooks := .later }
def PodOrderUptoCardSaid : Prop := Claim7.holds Tryz.pinned (.plain (OpenSpec.upto podOrderSpec)) podOrderUptoCard

/-- THE SECOND FORM's CARD OF 'orchestratorlaw33.PodRank'. -/
def podRankUptoCard : Claim7 := { stood := { row := podRankUptoRow, standIns := [], harness := (true, "52ee5be85e7ebfd0c2521c273585162b0225cf8dea775cb27966998cac3c948f"), looks := false }, kinds := [], alts := [], laidByText := true, laidKinds := [.data, .data, .data], laidTests := true, laidLooks := .later }
def PodRankUptoCardSaid : Prop := Claim7.holds Tryz.pinned (.plain (OpenSpec.upto podRankSpec)) podRankUptoCard

/-- THE SECOND FORM's CARD OF 'orchestratorlaw33.PodLasts'. -/
def podLastsUptoCard : Claim7 := { stood := { row := podLastsUptoRow, standIns := [], harness := (true, "52ee5be85e7ebfd0c2521c273585162b0225cf8dea775cb27966998cac3c948f"), looks := false }, kinds := [], alts := [], laidByText := true, laidKinds := [.data, .data, .data], laidTests := true, laidLooks := .later }
def PodLastsUptoCardSaid : Prop := Claim7.holds Tryz.pinned (.plain (OpenSpec.upto podLastsSpec)) podLastsUptoCard

/-- THE SECOND FORM's CARD OF 'orchestratorlaw33.PodPhases'. -/
def podPhasesUptoCard : Claim7 := { stood := { row := podPhasesUptoRow, standIns := [], harness := (true, "52ee5be85e7ebfd0c2521c273585162b0225cf8dea775cb27966998cac3c948f"), looks := false }, kinds := [], alts := [], laidByText := true, laidKinds := [.data, .data, .data], laidTests := true, laidLooks := .later }
def PodPhasesUptoCardSaid : Prop := Claim7.holds Tryz.pinned (.plain (OpenSpec.upto podPhasesSpec)) podPhasesUptoCard
end Rows
end Go.Proofs.YthnkchbcinlnnaaGreatDoor
