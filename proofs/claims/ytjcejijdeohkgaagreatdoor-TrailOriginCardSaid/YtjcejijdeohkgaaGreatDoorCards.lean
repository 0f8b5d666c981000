/-
  DERIVED. GIVEN WITH THE SEED: THE CARDS: each row of YtjcejijdeohkgaaGreatDoorRows.lean that lists a variable, with what it lists TIED to the program's text (the seventh form; the later family's looks); each row that meets fmt, with fmt's text TOLD by the authors' own Lean function (tested against real Go, not proved from fmt's source: count such statements apart). THE CARD IS WHAT COUNTS. Prove the row's statement (the work); the ties are given (YtjcejijdeohkgaaGreatDoorTie.lean); close each card by the builder's one call (the guide's Derived/Test/ToyasCard.lean, 'card_holds'). Laid BY PROGRAM, IN A SANDBOX (cutbox-door.mjs). By AI agents, Wed Nov 11 2026. No macro, syntax, notation, axiom, sorry.
-/
import Derived.Test.YtjcejijdeohkgaaGreatDoorRows
import GoSem.ClaimSeven
namespace Go.Proofs.YtjcejijdeohkgaaGreatDoor
namespace Rows

/-- THE TIED CARD OF 'clerestorykeep4.UrlBytes'. -/
def urlBytesCard : Claim7 := { stood := { row := urlBytesRow, standIns := [], harness := (true, "66da26cd48b456093124b068e3dde9a0fc4ef7aa6cfaee5089768914d9fe02e9"), looks := true }, kinds := [], alts := [], laidByText := true, laidKinds := [.data, .data, .data, .data, .sentinel, .sentinel, .pinned], laidTests := true, laidLooks := .later }
def UrlBytesCardSaid : Prop := Claim7.holds Tryz.pinned (.plain (OpenSpec.ofChange urlBytesSpec)) urlBytesCard

/-- THE TIED CARD OF 'clerestorykeep4.UrlAgain'. -/
def urlAgainCard : Claim7 := { stood := { row := urlAgainRow, standIns := [], harness := (true, "66da26cd48b456093124b068e3dde9a0fc4ef7aa6cfaee5089768914d9fe02e9"), looks := true }, kinds := [], alts := [], laidByText := true, laidKinds := [.data, .data, .data, .data, .sentinel, .sentinel, .pinned], laidTests := true, laidLooks := .later }
def UrlAgainCardSaid : Prop := Claim7.holds Tryz.pinned (.plain (OpenSpec.ofChange urlAgainSpec)) urlAgainCard

/-- THE TIED CARD OF 'clerestorykeep4.StoreQuota'. -/
def storeQuotaCard : Claim7 := { stood := { row := storeQuotaRow, standIns := [], harness := (true, "66da26cd48b456093124b068e3dde9a0fc4ef7aa6cfaee5089768914d9fe02e9"), looks := true }, kinds := [], alts := [], laidByText := true, laidKinds := [.data, .data, .data, .data, .sentinel, .sentinel, .pinned], laidTests := true, laidLooks := .later }
def StoreQuotaCardSaid : Prop := Claim7.holds Tryz.pinned (.plain (OpenSpec.ofChange storeQuotaSpec)) storeQuotaCard

/-- THE TIED CARD OF 'clerestorykeep4.UrlHere'. -/
def urlHereCard : Claim7 := { stood := { row := urlHereRow, standIns := [], harness := (true, "66da26cd48b456093124b068e3dde9a0fc4ef7aa6cfaee5089768914d9fe02e9"), looks := true }, kinds := [], alts := [], laidByText := true, laidKinds := [.data, .data, .data, .data, .sentinel, .sentinel, .pinned], laidTests := true, laidLooks := .later }
def UrlHereCardSaid : Prop := Claim7.holds Tryz.pinned (.plain (OpenSpec.ofChange urlHereSpec)) urlHereCard

/-- THE TIED CARD OF 'clerestorykeep4.UrlDots'. -/
def urlDotsCard : Claim7 := { stood := { row := urlDotsRow, standIns := [], harness := (true, "66da26cd48b456093124b068e3dde9a0fc4ef7aa6cfaee5089768914d9fe02e9"), looks := true }, kinds := [], alts := [], laidByText := true, laidKinds := [.data, .data, .data, .data, .sentinel, .sentinel, .pinned], laidTests := true, laidLooks := .later }
def UrlDotsCardSaid : Prop := Claim7.holds Tryz.pinned (.plain (OpenSpec.ofChange urlDotsSpec)) urlDotsCard

/-- THE TIED CARD OF 'clerestorykeep4.StoreGets'. -/
def storeGetsCard : Claim7 := { stood := { row := storeGetsRow, standIns := [], harness := (true, "66da26cd48b456093124b068e3dde9a0fc4ef7aa6cfaee5089768914d9fe02e9"), looks := true }, kinds := [], alts := [], laidByText := true, laidKinds := [.data, .data, .data, .data, .sentinel, .sentinel, .pinned], laidTests := true, laidLooks := .later }
def StoreGetsCardSaid : Prop := Claim7.holds Tryz.pinned (.plain (OpenSpec.ofChange storeGetsSpec)) storeGetsCard

/-- THE TIED CARD OF 'clerestorykeep4.UrlBack'. -/
def urlBackCard : Claim7 := { stood := { row := urlBackRow, standIns := [], harness := (true, "66da26cd48b456093124b068e3dde9a0fc4ef7aa6cfaee5089768914d9fe02e9"), looks := true }, kinds := [], alts := [], laidByText := true, laidKinds := [.data, .data, .data, .data, .sentinel, .sentinel, .pinned], laidTests := true, laidLooks := .later }
def UrlBackCardSaid : Prop := Claim7.holds Tryz.pinned (.plain (OpenSpec.ofChange urlBackSpec)) urlBackCard

/-- THE TIED CARD OF 'clerestorykeep4.StoreApart'. -/
def storeApartCard : Claim7 := { stood := { row := storeApartRow, standIns := [], harness := (true, "66da26cd48b456093124b068e3dde9a0fc4ef7aa6cfaee5089768914d9fe02e9"), looks := true }, kinds := [], alts := [], laidByText := true, laidKinds := [.data, .data, .data, .data, .sentinel, .sentinel, .pinned], laidTests := true, laidLooks := .later }
def StoreApartCardSaid : Prop := Claim7.holds Tryz.pinned (.plain (OpenSpec.ofChange storeApartSpec)) storeApartCard

/-- THE TIED CARD OF 'clerestorykeep4.TrailCuts'. -/
def trailCutsCard : Claim7 := { stood := { row := trailCutsRow, standIns := [], harness := (true, "66da26cd48b456093124b068e3dde9a0fc4ef7aa6cfaee5089768914d9fe02e9"), looks := true }, kinds := [], alts := [], laidByText := true, laidKinds := [.data, .data, .data, .data, .sentinel, .sentinel, .pinned], laidTests := true, laidLooks := .later }
def TrailCutsCardSaid : Prop := Claim7.holds Tryz.pinned (.plain (OpenSpec.ofChange trailCutsSpec)) trailCutsCard

/-- THE TIED CARD OF 'clerestorykeep4.TrailOrigin'. -/
def trailOriginCard : Claim7 := { stood := { row := trailOriginRow, standIns := [], harness := (true, "66da26cd48b456093124b068e3dde9a0fc4ef7aa6cfaee5089768914d9fe02e9"), looks := true }, kinds := [], alts := [], laidByText := true, laidKinds := [.data, .data, .data, .data, .sentinel, .sentinel, .pinned], laidTests := true, laidLooks := .later }
def TrailOriginCardSaid : Prop := Claim7.holds Tryz.pinned (.plain (OpenSpec.ofChange trailOriginSpec)) trailOriginCard

/-- THE TIED CARD OF 'clerestorykeep4.TrailRight'. -/
def trailRightCard : Claim7 := { stood := { row := trailRightRow, standIns := [], harness := (true, "66da26cd48b456093124b068e3dde9a0fc4ef7aa6cfaee5089768914d9fe02e9"), looks := true }, kinds := [], alts := [], laidByText := true, laidKinds := [.data, .data, .data, .data, .sentinel, .sentinel, .pinned], laidTests := true, laidLooks := .later }
def TrailRightCardSaid : Prop := Claim7.holds Tryz.pinned (.plain (OpenSpec.ofChange trailRightSpec)) trailRightCard

/-- THE TIED CARD OF 'clerestorykeep4.TrailBack'. -/
def trailBackCard : Claim7 := { stood := { row := trailBackRow, standIns := [], harness := (true, "66da26cd48b456093124b068e3dde9a0fc4ef7aa6cfaee5089768914d9fe02e9"), looks := true }, kinds := [], alts := [], laidByText := true, laidKinds := [.data, .data, .data, .data, .sentinel, .sentinel, .pinned], laidTests := true, laidLooks := .later }
def TrailBackCardSaid : Prop := Claim7.holds Tryz.pinned (.plain (OpenSpec.ofChange trailBackSpec)) trailBackCard

/-- THE SECOND FORM's CARD OF 'clerestorykeep4.UrlBytes'. -/
def urlBytesUptoCard : Claim7 := { stood := { row := urlBytesUptoRow, standIns := [], harness := (true, "66da26cd48b456093124b068e3dde9a0fc4ef7aa6cfaee5089768914d9fe02e9"), looks := true }, kinds := [], alts := [], laidByText := true, laidKinds := [.data, .data, .data, .data, .sentinel, .sentinel, .pinned], laidTests := true, laidLooks := .later }
def UrlBytesUptoCardSaid : Prop := Claim7.holds Tryz.pinned (.plain (OpenSpec.upto urlBytesSpec)) urlBytesUptoCard

/-- THE SECOND FORM's CARD OF 'clerestorykeep4.UrlAgain'. -/
def urlAgainUptoCard : Claim7 := { stood := { row := urlAgainUptoRow, standIns := [], harness := (true, "66da26cd48b456093124b068e3dde9a0fc4ef7aa6cfaee5089768914d9fe02e9"), looks := true }, kinds := [], alts := [], laidByText := true, laidKinds := [.data, .data, .data, .data, .sentinel, .sentinel, .pinned], laidTests := true, laidLooks := .later }
def UrlAgainUptoCardSaid : Prop := Claim7.holds Tryz.pinned (.plain (OpenSpec.upto urlAgainSpec)) urlAgainUptoCard

/-- THE SECOND FORM's CARD OF 'clerestorykeep4.StoreQuota'. -/
def storeQuotaUptoCard : Claim7 := { stood := { row := storeQuotaUptoRow, standIns := [], harness := (true, "66da26cd48b456093124b068e3dde9a0fc4ef7aa6cfaee5089768914d9fe02e9"), looks := true }, kinds := [], alts := [], laidByText := true, laidKinds := [.data, .data, .data, .data, .sentinel, .sentinel, .pinned], laidTests := true, laidLooks := .later }
def StoreQuotaUptoCardSaid : Prop := Claim7.holds Tryz.pinned (.plain (OpenSpec.upto storeQuotaSpec)) storeQuotaUptoCard

/-- THE SECOND FORM's CARD OF 'clerestorykeep4.UrlHere'. -/
def urlHereUptoCard : Claim7 := { stood := { row := urlHereUptoRow, standIns := [], harness := (true, "66da26cd48b456093124b068e3dde9a0fc4ef7aa6cfaee5089768914d9fe02e9"), looks := true }, kinds := [], alts := [], laidByText := true, laidKinds := [.data, .data, .data, .data, .sentinel, .sentinel, .pinned], laidTests := true, laidLooks := .later }
def UrlHereUptoCardSaid : Prop := Claim7.holds Tryz.pinned (.plain (OpenSpec.upto urlHereSpec)) urlHereUptoCard

/-- THE SECOND FORM's CARD OF 'clerestorykeep4.UrlDots'. -/
def urlDotsUptoCard : Claim7 := { stood := { row := urlDotsUptoRow, standIns := [], harness := (true, "66da26cd48b456093124b068e3dde9a0fc4ef7aa6cfaee5089768914d9fe02e9"), looks := true }, kinds := [], alts := [], laidByText := true, laidKinds := [.data, .data, .data, .data, .sentinel, .sentinel, .pinned], laidTests := true, laidLooks := .later }
def UrlDotsUptoCardSaid : Prop := Claim7.holds Tryz.pinned (.plain (OpenSpec.upto urlDotsSpec)) urlDotsUptoCard

/-- THE SECOND FORM's CARD OF 'clerestorykeep4.StoreGets'. -/
def storeGetsUptoCard : Claim7 := { stood := { row := storeGetsUptoRow, standIns := [], harness := (true, "66da26cd48b456093124b068e3dde9a0fc4ef7aa6cfaee5089768914d9fe02e9"), looks := true }, kinds := [], alts := [], laidByText := true, laidKinds := [.data, .data, .data, .data, .sentinel, .sentinel, .pinned], laidTests := true, laidLooks := .later }
def StoreGetsUptoCardSaid : Prop := Claim7.holds Tryz.pinned (.plain (OpenSpec.upto storeGetsSpec)) storeGetsUptoCard

/-- THE SECOND FORM's CARD OF 'clerestorykeep4.UrlBack'. -/
def urlBackUptoCard : Claim7 := { stood := { row := urlBackUptoRow, standIns := [], harness := (true, "66da26cd48b456093124b068e3dde9a0fc4ef7aa6cfaee5089768914d9fe02e9"), looks := true }, kinds := [], alts := [], laidByText := true, laidKinds := [.data, .data, .data, .data, .sentinel, .sentinel, .pinned], laidTests := true, laidLooks := .later }
def UrlBackUptoCardSaid : Prop := Claim7.holds Tryz.pinned (.plain (OpenSpec.upto urlBackSpec)) urlBackUptoCard

/-- THE SECOND FORM's CARD OF 'clerestorykeep4.StoreApart'. -/
def storeApartUptoCard : Claim7 := { stood := { row := storeApartUptoRow, standIns := [], harness := (true, "66da26cd48b456093124b068e3dde9a0fc4ef7aa6cfaee5089768914d9fe02e9"), looks := true }, kinds := [], alts := [], laidByText := true, laidKinds := [.data, .data, .data, .data, .sentinel, .sentinel, .pinned], laidTests := true, laidLooks := .later }
def StoreApartUptoCardSaid : Prop := Claim7.holds Tryz.pinned (.plain (OpenSpec.upto storeApartSpec)) storeApartUptoCard

/-- THE SECOND FORM's CARD OF 'clerestorykeep4.TrailCuts'. -/
def trailCutsUptoCard : Claim7 := { stood := { row := trailCutsUptoRow, standIns := [], harness := (true, "66da26cd48b456093124b068e3dde9a0fc4ef7aa6cfaee5089768914d9fe02e9"), looks := true }, kinds := [], alts := [], laidByText := true, laidKinds := [.data, .data, .data, .data, .sentinel, .sentinel, .pinned], laidTests := true, laidLooks := .later }
def TrailCutsUptoCardSaid : Prop := Claim7.holds Tryz.pinned (.plain (OpenSpec.upto trailCutsSpec)) trailCutsUptoCard

/-- THE SECOND FORM's CARD OF 'clerestorykeep4.TrailOrigin'. -/
def trailOriginUptoCard : Claim7 := { stood := { row := trailOriginUptoRow, standIns := [], harness := (true, "66da26cd48b456093124b068e3dde9a0fc4ef7aa6cfaee5089768914d9fe02e9"), looks := true }, kinds := [], alts := [], laidByText := true, laidKinds := [.data, .data, .data, .data, .sentinel, .sentinel, .pinned], laidTests := true, laidLooks := .later }
def TrailOriginUptoCardSaid : Prop := Claim7.holds Tryz.pinned (.plain (OpenSpec.upto trailOriginSpec)) trailOriginUptoCard

/-- THE SECOND FORM's CARD OF 'clerestorykeep4.TrailRight'. -/
def trailRightUptoCard : Claim7 := { stood := { row := trailRightUptoRow, standIns := [], harness := (true, "66da26cd48b456093124b068e3dde9a0fc4ef7aa6cfaee5089768914d9fe02e9"), looks := true }, kinds := [], alts := [], laidByText := true, laidKinds := [.data, .data, .data, .data, .sentinel, .sentinel, .pinned], laidTests := true, laidLooks := .later }
def TrailRightUptoCardSaid : Prop := Claim7.holds Tryz.pinned (.plain (OpenSpec.upto trailRightSpec)) trailRightUptoCard

/-- THE SECOND FORM's CARD OF 'clerestorykeep4.TrailBack'. -/
def trailBackUptoCard : Claim7 := { stood := { row := trailBackUptoRow, standIns := [], harness := (true, "66da26cd48b456093124b068e3dde9a0fc4ef7aa6cfaee5089768914d9fe02e9"), looks := true }, kinds := [], alts := [], laidByText := true, laidKinds := [.data, .data, .data, .data, .sentinel, .sentinel, .pinned], laidTests := true, laidLooks := .later }
def TrailBackUptoCardSaid : Prop := Claim7.holds Tryz.pinned (.plain (OpenSpec.upto trailBackSpec)) trailBackUptoCard
end Rows
end Go.Proofs.YtjcejijdeohkgaaGreatDoor
