/-
  DERIVED. GIVEN WITH THE SEED: THE CARDS: each row of YtnnckjgafglgeaaDoorRows.lean that lists a variable, with what it lists TIED to the program's text (the seventh form; the later family's looks); each row that meets fmt, with fmt's text TOLD by the authors' own Lean function (tested against real Go, not proved from fmt's source: count such statements apart). THE CARD IS WHAT COUNTS. Prove the row's statement (the work); the ties are given (YtnnckjgafglgeaaDoorTie.lean); close each card by the builder's one call (the guide's Derived/Test/ToyasCard.lean, 'card_holds'). Laid BY PROGRAM, IN A SANDBOX (cutbox-door.mjs). By AI agents, Wed Nov 11 2026. No macro, syntax, notation, axiom, sorry.
-/
import Derived.Test.YtnnckjgafglgeaaDoorRows
import GoSem.ClaimSeven
namespace Go.Proofs.YtnnckjgafglgeaaDoor
namespace Rows

/-- THE TIED CARD OF 'clerestorykeep4.EventPath'. -/
def eventPathCard : Claim7 := { stood := { row := eventPathRow, standIns := [], harness := (true, "658fac8f9a29e1a7a6612db6a82d879b19631c24e0787334f83951785f59e35f"), looks := false }, kinds := [], alts := [], laidByText := true, laidKinds := [.data, .pinned], laidTests := true, laidLooks := .later }
def EventPathCardSaid : Prop := Claim7.holds Tryd.pinned (.plain (OpenSpec.ofChange eventPathSpec)) eventPathCard

/-- THE TIED CARD OF 'clerestorykeep4.EventStops'. -/
def eventStopsCard : Claim7 := { stood := { row := eventStopsRow, standIns := [], harness := (true, "658fac8f9a29e1a7a6612db6a82d879b19631c24e0787334f83951785f59e35f"), looks := false }, kinds := [], alts := [], laidByText := true, laidKinds := [.data, .pinned], laidTests := true, laidLooks := .later }
def EventStopsCardSaid : Prop := Claim7.holds Tryd.pinned (.plain (OpenSpec.ofChange eventStopsSpec)) eventStopsCard

/-- THE TIED CARD OF 'clerestorykeep4.EventOnce'. -/
def eventOnceCard : Claim7 := { stood := { row := eventOnceRow, standIns := [], harness := (true, "658fac8f9a29e1a7a6612db6a82d879b19631c24e0787334f83951785f59e35f"), looks := false }, kinds := [], alts := [], laidByText := true, laidKinds := [.data, .pinned], laidTests := true, laidLooks := .later }
def EventOnceCardSaid : Prop := Claim7.holds Tryd.pinned (.plain (OpenSpec.ofChange eventOnceSpec)) eventOnceCard

/-- THE TIED CARD OF 'clerestorykeep4.EventPrevents'. -/
def eventPreventsCard : Claim7 := { stood := { row := eventPreventsRow, standIns := [], harness := (true, "658fac8f9a29e1a7a6612db6a82d879b19631c24e0787334f83951785f59e35f"), looks := false }, kinds := [], alts := [], laidByText := true, laidKinds := [.data, .pinned], laidTests := true, laidLooks := .later }
def EventPreventsCardSaid : Prop := Claim7.holds Tryd.pinned (.plain (OpenSpec.ofChange eventPreventsSpec)) eventPreventsCard

/-- THE TIED CARD OF 'clerestorykeep4.EventOrder'. -/
def eventOrderCard : Claim7 := { stood := { row := eventOrderRow, standIns := [], harness := (true, "658fac8f9a29e1a7a6612db6a82d879b19631c24e0787334f83951785f59e35f"), looks := false }, kinds := [], alts := [], laidByText := true, laidKinds := [.data, .pinned], laidTests := true, laidLooks := .later }
def EventOrderCardSaid : Prop := Claim7.holds Tryd.pinned (.plain (OpenSpec.ofChange eventOrderSpec)) eventOrderCard

/-- THE SECOND FORM's CARD OF 'clerestorykeep4.EventPath'. -/
def eventPathUptoCard : Claim7 := { stood := { row := eventPathUptoRow, standIns := [], harness := (true, "658fac8f9a29e1a7a6612db6a82d879b19631c24e0787334f83951785f59e35f"), looks := false }, kinds := [], alts := [], laidByText := true, laidKinds := [.data, .pinned], laidTests := true, laidLooks := .later }
def EventPathUptoCardSaid : Prop := Claim7.holds Tryd.pinned (.plain (OpenSpec.upto eventPathSpec)) eventPathUptoCard

/-- THE SECOND FORM's CARD OF 'clerestorykeep4.EventStops'. -/
def eventStopsUptoCard : Claim7 := { stood := { row := eventStopsUptoRow, standIns := [], harness := (true, "658fac8f9a29e1a7a6612db6a82d879b19631c24e0787334f83951785f59e35f"), looks := false }, kinds := [], alts := [], laidByText := true, laidKinds := [.data, .pinned], laidTests := true, laidLooks := .later }
def EventStopsUptoCardSaid : Prop := Claim7.holds Tryd.pinned (.plain (OpenSpec.upto eventStopsSpec)) eventStopsUptoCard

/-- THE SECOND FORM's CARD OF 'clerestorykeep4.EventOnce'. -/
def eventOnceUptoCard : Claim7 := { stood := { row := eventOnceUptoRow, standIns := [], harness := (true, "658fac8f9a29e1a7a6612db6a82d879b19631c24e0787334f83951785f59e35f"), looks := false }, kinds := [], alts := [], laidByText := true, laidKinds := [.data, .pinned], laidTests := true, laidLooks := .later }
def EventOnceUptoCardSaid : Prop := Claim7.holds Tryd.pinned (.plain (OpenSpec.upto eventOnceSpec)) eventOnceUptoCard

/-- THE SECOND FORM's CARD OF 'clerestorykeep4.EventPrevents'. -/
def eventPreventsUptoCard : Claim7 := { stood := { row := eventPreventsUptoRow, standIns := [], harness := (true, "658fac8f9a29e1a7a6612db6a82d879b19631c24e0787334f83951785f59e35f"), looks := false }, kinds := [], alts := [], laidByText := true, laidKinds := [.data, .pinned], laidTests := true, laidLooks := .later }
def EventPreventsUptoCardSaid : Prop := Claim7.holds Tryd.pinned (.plain (OpenSpec.upto eventPreventsSpec)) eventPreventsUptoCard

/-- THE SECOND FORM's CARD OF 'clerestorykeep4.EventOrder'. -/
def eventOrderUptoCard : Claim7 := { stood := { row := eventOrderUptoRow, standIns := [], harness := (true, "658fac8f9a29e1a7a6612db6a82d879b19631c24e0787334f83951785f59e35f"), looks := false }, kinds := [], alts := [], laidByText := true, laidKinds := [.data, .pinned], laidTests := true, laidLooks := .later }
def EventOrderUptoCardSaid : Prop := Claim7.holds Tryd.pinned (.plain (OpenSpec.upto eventOrderSpec)) eventOrderUptoCard
end Rows
end Go.Proofs.YtnnckjgafglgeaaDoor
