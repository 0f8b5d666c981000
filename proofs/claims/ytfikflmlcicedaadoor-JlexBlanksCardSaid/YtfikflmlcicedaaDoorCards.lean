/-
  DERIVED. GIVEN WITH THE SEED: THE CARDS: each row of YtfikflmlcicedaaDoorRows.lean that lists a variable, with what it lists TIED to the program's text (the seventh form; the later family's looks); each row that meets fmt, with fmt's text TOLD by the authors' own Lean function (tested against real Go, not proved from fmt's source: count such statements apart). THE CARD IS WHAT COUNTS. Prove the row's statement (the work); the ties are given (YtfikflmlcicedaaDoorTie.lean); close each card by the builder's one call (the guide's Derived/Test/ToyasCard.lean, 'card_holds'). Laid BY PROGRAM, IN A SANDBOX (cutbox-door.mjs). By AI agents, Wed Nov 11 2026. No macro, syntax, notation, axiom, sorry.
-/
import Derived.Test.YtfikflmlcicedaaDoorRows
import GoSem.ClaimSeven
namespace Go.Proofs.YtfikflmlcicedaaDoor
namespace Rows

/-- THE TIED CARD OF 'clerestorykeep4.JlexPlaces'. -/
def jlexPlacesCard : Claim7 := { stood := { row := jlexPlacesRow, standIns := [], harness := (true, "30829686cdd50e119809a6cfc7615718d27f56096f371700cbf258f4233e7ea8"), looks := false }, kinds := [], alts := [], laidByText := true, laidKinds := [.listed, .data], laidTests := true, laidLooks := .later }
def JlexPlacesCardSaid : Prop := Claim7.holds Tryd.pinned (.plain (OpenSpec.ofChange jlexPlacesSpec)) jlexPlacesCard

/-- THE TIED CARD OF 'clerestorykeep4.JlexTwo'. -/
def jlexTwoCard : Claim7 := { stood := { row := jlexTwoRow, standIns := [], harness := (true, "30829686cdd50e119809a6cfc7615718d27f56096f371700cbf258f4233e7ea8"), looks := false }, kinds := [], alts := [], laidByText := true, laidKinds := [.listed, .data], laidTests := true, laidLooks := .later }
def JlexTwoCardSaid : Prop := Claim7.holds Tryd.pinned (.plain (OpenSpec.ofChange jlexTwoSpec)) jlexTwoCard

/-- THE TIED CARD OF 'clerestorykeep4.JlexQuotes'. -/
def jlexQuotesCard : Claim7 := { stood := { row := jlexQuotesRow, standIns := [], harness := (true, "30829686cdd50e119809a6cfc7615718d27f56096f371700cbf258f4233e7ea8"), looks := false }, kinds := [], alts := [], laidByText := true, laidKinds := [.listed, .data], laidTests := true, laidLooks := .later }
def JlexQuotesCardSaid : Prop := Claim7.holds Tryd.pinned (.plain (OpenSpec.ofChange jlexQuotesSpec)) jlexQuotesCard

/-- THE TIED CARD OF 'clerestorykeep4.JlexBlanks'. -/
def jlexBlanksCard : Claim7 := { stood := { row := jlexBlanksRow, standIns := [], harness := (true, "30829686cdd50e119809a6cfc7615718d27f56096f371700cbf258f4233e7ea8"), looks := false }, kinds := [], alts := [], laidByText := true, laidKinds := [.listed, .data], laidTests := true, laidLooks := .later }
def JlexBlanksCardSaid : Prop := Claim7.holds Tryd.pinned (.plain (OpenSpec.ofChange jlexBlanksSpec)) jlexBlanksCard

/-- THE SECOND FORM's CARD OF 'clerestorykeep4.JlexPlaces'. -/
def jlexPlacesUptoCard : Claim7 := { stood := { row := jlexPlacesUptoRow, standIns := [], harness := (true, "30829686cdd50e119809a6cfc7615718d27f56096f371700cbf258f4233e7ea8"), looks := false }, kinds := [], alts := [], laidByText := true, laidKinds := [.listed, .data], laidTests := true, laidLooks := .later }
def JlexPlacesUptoCardSaid : Prop := Claim7.holds Tryd.pinned (.plain (OpenSpec.upto jlexPlacesSpec)) jlexPlacesUptoCard

/-- THE SECOND FORM's CARD OF 'clerestorykeep4.JlexTwo'. -/
def jlexTwoUptoCard : Claim7 := { stood := { row := jlexTwoUptoRow, standIns := [], harness := (true, "30829686cdd50e119809a6cfc7615718d27f56096f371700cbf258f4233e7ea8"), looks := false }, kinds := [], alts := [], laidByText := true, laidKinds := [.listed, .data], laidTests := true, laidLooks := .later }
def JlexTwoUptoCardSaid : Prop := Claim7.holds Tryd.pinned (.plain (OpenSpec.upto jlexTwoSpec)) jlexTwoUptoCard

/-- THE SECOND FORM's CARD OF 'clerestorykeep4.JlexQuotes'. -/
def jlexQuotesUptoCard : Claim7 := { stood := { row := jlexQuotesUptoRow, standIns := [], harness := (true, "30829686cdd50e119809a6cfc7615718d27f56096f371700cbf258f4233e7ea8"), looks := false }, kinds := [], alts := [], laidByText := true, laidKinds := [.listed, .data], laidTests := true, laidLooks := .later }
def JlexQuotesUptoCardSaid : Prop := Claim7.holds Tryd.pinned (.plain (OpenSpec.upto jlexQuotesSpec)) jlexQuotesUptoCard

/-- THE SECOND FORM's CARD OF 'clerestorykeep4.JlexBlanks'. -/
def jlexBlanksUptoCard : Claim7 := { stood := { row := jlexBlanksUptoRow, standIns := [], harness := (true, "30829686cdd50e119809a6cfc7615718d27f56096f371700cbf258f4233e7ea8"), looks := false }, kinds := [], alts := [], laidByText := true, laidKinds := [.listed, .data], laidTests := true, laidLooks := .later }
def JlexBlanksUptoCardSaid : Prop := Claim7.holds Tryd.pinned (.plain (OpenSpec.upto jlexBlanksSpec)) jlexBlanksUptoCard
end Rows
end Go.Proofs.YtfikflmlcicedaaDoor
