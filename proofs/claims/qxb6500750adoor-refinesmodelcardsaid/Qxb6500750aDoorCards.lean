/-
  DERIVED. GIVEN WITH THE SEED: THE CARDS: each row of Qxb6500750aDoorRows.lean that lists a variable, with what it lists TIED to the program's text (the seventh form; the later family's looks); each row that meets fmt, with fmt's text TOLD by the authors' own Lean function (tested against real Go, not proved from fmt's source: count such statements apart). THE CARD IS WHAT COUNTS. Prove the row's statement (the work); the ties are given (Qxb6500750aDoorTie.lean); close each card by the builder's one call (the guide's Derived/Test/ToyasCard.lean, 'card_holds'). Laid BY PROGRAM, IN A SANDBOX (cutbox-door.mjs). By AI agents, Wed Nov 11 2026. No macro, syntax, notation, axiom, sorry.
-/
import Derived.Test.Qxb6500750aDoorRows
import GoSem.ClaimSeven
namespace Go.Proofs.Qxb6500750aDoor
namespace Rows

/-- THE TIED CARD OF 'xbarlaw.RefinesModel'. -/
def refinesModelCard : Claim7 := { stood := { row := refinesModelRow, standIns := [], harness := (true, "75f750b171c6d7e203304ca872e1deef4ff89a8e4fb453f0b40c91e4a7ad5805"), looks := false }, kinds := [], alts := [], laidByText := true, laidKinds := [.data, .data, .data, .called], laidTests := true, laidLooks := .later }
def RefinesModelCardSaid : Prop := Claim7.holds Tryd.pinned (.plain (OpenSpec.ofChange refinesModelSpec)) refinesModelCard

/-- THE TIED CARD OF 'xbarlaw.DecodeAgreesWithIntervals'. -/
def decodeAgreesWithIntervalsCard : Claim7 := { stood := { row := decodeAgreesWithIntervalsRow, standIns := [], harness := (true, "75f750b171c6d7e203304ca872e1deef4ff89a8e4fb453f0b40c91e4a7ad5805"), looks := false }, kinds := [], alts := [], laidByText := true, laidKinds := [.data, .called], laidTests := true, laidLooks := .later }
def DecodeAgreesWithIntervalsCardSaid : Prop := Claim7.holds Tryd.pinned (.plain (OpenSpec.ofChange decodeAgreesWithIntervalsSpec)) decodeAgreesWithIntervalsCard

/-- THE TIED CARD OF 'xbarlaw.OrderBoundsAndInterleaving'. -/
def orderBoundsAndInterleavingCard : Claim7 := { stood := { row := orderBoundsAndInterleavingRow, standIns := [], harness := (true, "75f750b171c6d7e203304ca872e1deef4ff89a8e4fb453f0b40c91e4a7ad5805"), looks := false }, kinds := [], alts := [], laidByText := true, laidKinds := [.data, .data, .data, .called], laidTests := true, laidLooks := .later }
def OrderBoundsAndInterleavingCardSaid : Prop := Claim7.holds Tryd.pinned (.plain (OpenSpec.ofChange orderBoundsAndInterleavingSpec)) orderBoundsAndInterleavingCard

/-- THE TIED CARD OF 'xbarlaw.RetriesAreBoundedAndNoWriteActsTwice'. -/
def retriesAreBoundedAndNoWriteActsTwiceCard : Claim7 := { stood := { row := retriesAreBoundedAndNoWriteActsTwiceRow, standIns := [], harness := (true, "75f750b171c6d7e203304ca872e1deef4ff89a8e4fb453f0b40c91e4a7ad5805"), looks := false }, kinds := [], alts := [], laidByText := true, laidKinds := [.data, .data, .data, .called], laidTests := true, laidLooks := .later }
def RetriesAreBoundedAndNoWriteActsTwiceCardSaid : Prop := Claim7.holds Tryd.pinned (.plain (OpenSpec.ofChange retriesAreBoundedAndNoWriteActsTwiceSpec)) retriesAreBoundedAndNoWriteActsTwiceCard

/-- THE TIED CARD OF 'xbarlaw.IsolationHolds'. -/
def isolationHoldsCard : Claim7 := { stood := { row := isolationHoldsRow, standIns := [], harness := (true, "75f750b171c6d7e203304ca872e1deef4ff89a8e4fb453f0b40c91e4a7ad5805"), looks := false }, kinds := [], alts := [], laidByText := true, laidKinds := [.data, .data, .data, .called], laidTests := true, laidLooks := .later }
def IsolationHoldsCardSaid : Prop := Claim7.holds Tryd.pinned (.plain (OpenSpec.ofChange isolationHoldsSpec)) isolationHoldsCard

/-- THE TIED CARD OF 'xbarlaw.ArbitrationIsPickedOrRoundRobin'. -/
def arbitrationIsPickedOrRoundRobinCard : Claim7 := { stood := { row := arbitrationIsPickedOrRoundRobinRow, standIns := [], harness := (true, "75f750b171c6d7e203304ca872e1deef4ff89a8e4fb453f0b40c91e4a7ad5805"), looks := false }, kinds := [], alts := [], laidByText := true, laidKinds := [.data, .data, .data, .called], laidTests := true, laidLooks := .later }
def ArbitrationIsPickedOrRoundRobinCardSaid : Prop := Claim7.holds Tryd.pinned (.plain (OpenSpec.ofChange arbitrationIsPickedOrRoundRobinSpec)) arbitrationIsPickedOrRoundRobinCard

/-- THE TIED CARD OF 'xbarlaw.EveryAcceptedRequestIsAnsweredOnce'. -/
def everyAcceptedRequestIsAnsweredOnceCard : Claim7 := { stood := { row := everyAcceptedRequestIsAnsweredOnceRow, standIns := [], harness := (true, "75f750b171c6d7e203304ca872e1deef4ff89a8e4fb453f0b40c91e4a7ad5805"), looks := false }, kinds := [], alts := [], laidByText := true, laidKinds := [.data, .data, .data, .called], laidTests := true, laidLooks := .later }
def EveryAcceptedRequestIsAnsweredOnceCardSaid : Prop := Claim7.holds Tryd.pinned (.plain (OpenSpec.ofChange everyAcceptedRequestIsAnsweredOnceSpec)) everyAcceptedRequestIsAnsweredOnceCard

/-- THE TIED CARD OF 'xbarlaw.FaultFreeRunsMatchSequentialMemory'. -/
def faultFreeRunsMatchSequentialMemoryCard : Claim7 := { stood := { row := faultFreeRunsMatchSequentialMemoryRow, standIns := [], harness := (true, "75f750b171c6d7e203304ca872e1deef4ff89a8e4fb453f0b40c91e4a7ad5805"), looks := false }, kinds := [], alts := [], laidByText := true, laidKinds := [.data, .data, .data, .called], laidTests := true, laidLooks := .later }
def FaultFreeRunsMatchSequentialMemoryCardSaid : Prop := Claim7.holds Tryd.pinned (.plain (OpenSpec.ofChange faultFreeRunsMatchSequentialMemorySpec)) faultFreeRunsMatchSequentialMemoryCard
end Rows
end Go.Proofs.Qxb6500750aDoor
