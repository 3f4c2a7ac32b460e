/-
  DERIVED. GIVEN WITH THE SEED: THE CARDS: each row of YtidkjcflppbpdaaDoorRows.lean that lists a variable, with what it lists TIED to the program's text (the seventh form; the later family's looks); each row that meets fmt, with fmt's text TOLD by the authors' own Lean function (tested against real Go, not proved from fmt's source: count such statements apart). THE CARD IS WHAT COUNTS. Prove the row's statement (the work); the ties are given (YtidkjcflppbpdaaDoorTie.lean); close each card by the builder's one call (the guide's Derived/Test/ToyasCard.lean, 'card_holds'). Laid BY PROGRAM, IN A SANDBOX (cutbox-door.mjs). By AI agents, Wed Nov 11 2026. No macro, syntax, notation, axiom, sorry.
-/
import Derived.Test.YtidkjcflppbpdaaDoorRows
import GoSem.ClaimSeven
namespace Go.Proofs.YtidkjcflppbpdaaDoor
namespace Rows

/-- THE TIED CARD OF 'quantumlaw03.PolyOrders'. -/
def polyOrdersCard : Claim7 := { stood := { row := polyOrdersRow, standIns := [], harness := (true, "82acb616d09280d0ec9a023ff038ea2bdb26c91a290453de16cc5fa33d1c4a97"), looks := false }, kinds := [], alts := [], laidByText := true, laidKinds := [.data, .data, .data], laidTests := true, laidLooks := .later }
def PolyOrdersCardSaid : Prop := Claim7.holds Tryd.pinned (.plain (OpenSpec.ofChange polyOrdersSpec)) polyOrdersCard

/-- THE TIED CARD OF 'quantumlaw03.PolyDivides'. -/
def polyDividesCard : Claim7 := { stood := { row := polyDividesRow, standIns := [], harness := (true, "82acb616d09280d0ec9a023ff038ea2bdb26c91a290453de16cc5fa33d1c4a97"), looks := false }, kinds := [], alts := [], laidByText := true, laidKinds := [.data, .data, .data], laidTests := true, laidLooks := .later }
def PolyDividesCardSaid : Prop := Claim7.holds Tryd.pinned (.plain (OpenSpec.ofChange polyDividesSpec)) polyDividesCard

/-- THE TIED CARD OF 'quantumlaw03.PolyProducts'. -/
def polyProductsCard : Claim7 := { stood := { row := polyProductsRow, standIns := [], harness := (true, "82acb616d09280d0ec9a023ff038ea2bdb26c91a290453de16cc5fa33d1c4a97"), looks := false }, kinds := [], alts := [], laidByText := true, laidKinds := [.data, .data, .data], laidTests := true, laidLooks := .later }
def PolyProductsCardSaid : Prop := Claim7.holds Tryd.pinned (.plain (OpenSpec.ofChange polyProductsSpec)) polyProductsCard

/-- THE TIED CARD OF 'quantumlaw03.PolyRing'. -/
def polyRingCard : Claim7 := { stood := { row := polyRingRow, standIns := [], harness := (true, "82acb616d09280d0ec9a023ff038ea2bdb26c91a290453de16cc5fa33d1c4a97"), looks := false }, kinds := [], alts := [], laidByText := true, laidKinds := [.data, .data, .data], laidTests := true, laidLooks := .later }
def PolyRingCardSaid : Prop := Claim7.holds Tryd.pinned (.plain (OpenSpec.ofChange polyRingSpec)) polyRingCard

/-- THE TIED CARD OF 'quantumlaw03.PolyTells'. -/
def polyTellsCard : Claim7 := { stood := { row := polyTellsRow, standIns := [], harness := (true, "82acb616d09280d0ec9a023ff038ea2bdb26c91a290453de16cc5fa33d1c4a97"), looks := false }, kinds := [], alts := [], laidByText := true, laidKinds := [.data, .data, .data], laidTests := true, laidLooks := .later }
def PolyTellsCardSaid : Prop := Claim7.holds Tryd.pinned (.plain (OpenSpec.ofChange polyTellsSpec)) polyTellsCard

/-- THE TIED CARD OF 'quantumlaw03.PolyPowers'. -/
def polyPowersCard : Claim7 := { stood := { row := polyPowersRow, standIns := [], harness := (true, "82acb616d09280d0ec9a023ff038ea2bdb26c91a290453de16cc5fa33d1c4a97"), looks := false }, kinds := [], alts := [], laidByText := true, laidKinds := [.data, .data, .data], laidTests := true, laidLooks := .later }
def PolyPowersCardSaid : Prop := Claim7.holds Tryd.pinned (.plain (OpenSpec.ofChange polyPowersSpec)) polyPowersCard

/-- THE TIED CARD OF 'quantumlaw03.PolyWrong'. -/
def polyWrongCard : Claim7 := { stood := { row := polyWrongRow, standIns := [], harness := (true, "82acb616d09280d0ec9a023ff038ea2bdb26c91a290453de16cc5fa33d1c4a97"), looks := false }, kinds := [], alts := [], laidByText := true, laidKinds := [.data, .data, .data], laidTests := true, laidLooks := .later }
def PolyWrongCardSaid : Prop := Claim7.holds Tryd.pinned (.plain (OpenSpec.ofChange polyWrongSpec)) polyWrongCard

/-- THE TIED CARD OF 'quantumlaw03.PolyTexts'. -/
def polyTextsCard : Claim7 := { stood := { row := polyTextsRow, standIns := [], harness := (true, "82acb616d09280d0ec9a023ff038ea2bdb26c91a290453de16cc5fa33d1c4a97"), looks := false }, kinds := [], alts := [], laidByText := true, laidKinds := [.data, .data, .data, .data, .pinned], laidTests := true, laidLooks := .later }
def PolyTextsCardSaid : Prop := Claim7.holds Tryd.pinned (.plain (OpenSpec.ofChange polyTextsSpec)) polyTextsCard

/-- THE TIED CARD OF 'quantumlaw03.PolyBack'. -/
def polyBackCard : Claim7 := { stood := { row := polyBackRow, standIns := [], harness := (true, "82acb616d09280d0ec9a023ff038ea2bdb26c91a290453de16cc5fa33d1c4a97"), looks := false }, kinds := [], alts := [], laidByText := true, laidKinds := [.data, .data, .data, .data, .pinned], laidTests := true, laidLooks := .later }
def PolyBackCardSaid : Prop := Claim7.holds Tryd.pinned (.plain (OpenSpec.ofChange polyBackSpec)) polyBackCard

/-- THE TIED CARD OF 'quantumlaw03.PolySmall'. -/
def polySmallCard : Claim7 := { stood := { row := polySmallRow, standIns := [], harness := (true, "82acb616d09280d0ec9a023ff038ea2bdb26c91a290453de16cc5fa33d1c4a97"), looks := false }, kinds := [], alts := [], laidByText := true, laidKinds := [.data, .data, .data, .data, .pinned], laidTests := true, laidLooks := .later }
def PolySmallCardSaid : Prop := Claim7.holds Tryd.pinned (.plain (OpenSpec.ofChange polySmallSpec)) polySmallCard

/-- THE SECOND FORM's CARD OF 'quantumlaw03.PolyOrders'. -/
def polyOrdersUptoCard : Claim7 := { stood := { row := polyOrdersUptoRow, standIns := [], harness := (true, "82acb616d09280d0ec9a023ff038ea2bdb26c91a290453de16cc5fa33d1c4a97"), looks := false }, kinds := [], alts := [], laidByText := true, laidKinds := [.data, .data, .data], laidTests := true, laidLooks := .later }
def PolyOrdersUptoCardSaid : Prop := Claim7.holds Tryd.pinned (.plain (OpenSpec.upto polyOrdersSpec)) polyOrdersUptoCard

/-- THE SECOND FORM's CARD OF 'quantumlaw03.PolyDivides'. -/
def polyDividesUptoCard : Claim7 := { stood := { row := polyDividesUptoRow, standIns := [], harness := (true, "82acb616d09280d0ec9a023ff038ea2bdb26c91a290453de16cc5fa33d1c4a97"), looks := false }, kinds := [], alts := [], laidByText := true, laidKinds := [.data, .data, .data], laidTests := true, laidLooks := .later }
def PolyDividesUptoCardSaid : Prop := Claim7.holds Tryd.pinned (.plain (OpenSpec.upto polyDividesSpec)) polyDividesUptoCard

/-- THE SECOND FORM's CARD OF 'quantumlaw03.PolyProducts'. -/
def polyProductsUptoCard : Claim7 := { stood := { row := polyProductsUptoRow, standIns := [], harness := (true, "82acb616d09280d0ec9a023ff038ea2bdb26c91a290453de16cc5fa33d1c4a97"), looks := false }, kinds := [], alts := [], laidByText := true, laidKinds := [.data, .data, .data], laidTests := true, laidLooks := .later }
def PolyProductsUptoCardSaid : Prop := Claim7.holds Tryd.pinned (.plain (OpenSpec.upto polyProductsSpec)) polyProductsUptoCard

/-- THE SECOND FORM's CARD OF 'quantumlaw03.PolyRing'. -/
def polyRingUptoCard : Claim7 := { stood := { row := polyRingUptoRow, standIns := [], harness := (true, "82acb616d09280d0ec9a023ff038ea2bdb26c91a290453de16cc5fa33d1c4a97"), looks := false }, kinds := [], alts := [], laidByText := true, laidKinds := [.data, .data, .data], laidTests := true, laidLooks := .later }
def PolyRingUptoCardSaid : Prop := Claim7.holds Tryd.pinned (.plain (OpenSpec.upto polyRingSpec)) polyRingUptoCard

/-- THE SECOND FORM's CARD OF 'quantumlaw03.PolyTells'. -/
def polyTellsUptoCard : Claim7 := { stood := { row := polyTellsUptoRow, standIns := [], harness := (true, "82acb616d09280d0ec9a023ff038ea2bdb26c91a290453de16cc5fa33d1c4a97"), looks := false }, kinds := [], alts := [], laidByText := true, laidKinds := [.data, .data, .data], laidTests := true, laidLooks := .later }
def PolyTellsUptoCardSaid : Prop := Claim7.holds Tryd.pinned (.plain (OpenSpec.upto polyTellsSpec)) polyTellsUptoCard

/-- THE SECOND FORM's CARD OF 'quantumlaw03.PolyPowers'. -/
def polyPowersUptoCard : Claim7 := { stood := { row := polyPowersUptoRow, standIns := [], harness := (true, "82acb616d09280d0ec9a023ff038ea2bdb26c91a290453de16cc5fa33d1c4a97"), looks := false }, kinds := [], alts := [], laidByText := true, laidKinds := [.data, .data, .data], laidTests := true, laidLooks := .later }
def PolyPowersUptoCardSaid : Prop := Claim7.holds Tryd.pinned (.plain (OpenSpec.upto polyPowersSpec)) polyPowersUptoCard

/-- THE SECOND FORM's CARD OF 'quantumlaw03.PolyWrong'. -/
def polyWrongUptoCard : Claim7 := { stood := { row := polyWrongUptoRow, standIns := [], harness := (true, "82acb616d09280d0ec9a023ff038ea2bdb26c91a290453de16cc5fa33d1c4a97"), looks := false }, kinds := [], alts := [], laidByText := true, laidKinds := [.data, .data, .data], laidTests := true, laidLooks := .later }
def PolyWrongUptoCardSaid : Prop := Claim7.holds Tryd.pinned (.plain (OpenSpec.upto polyWrongSpec)) polyWrongUptoCard

/-- THE SECOND FORM's CARD OF 'quantumlaw03.PolyTexts'. -/
def polyTextsUptoCard : Claim7 := { stood := { row := polyTextsUptoRow, standIns := [], harness := (true, "82acb616d09280d0ec9a023ff038ea2bdb26c91a290453de16cc5fa33d1c4a97"), looks := false }, kinds := [], alts := [], laidByText := true, laidKinds := [.data, .data, .data, .data, .pinned], laidTests := true, laidLooks := .later }
def PolyTextsUptoCardSaid : Prop := Claim7.holds Tryd.pinned (.plain (OpenSpec.upto polyTextsSpec)) polyTextsUptoCard

/-- THE SECOND FORM's CARD OF 'quantumlaw03.PolyBack'. -/
def polyBackUptoCard : Claim7 := { stood := { row := polyBackUptoRow, standIns := [], harness := (true, "82acb616d09280d0ec9a023ff038ea2bdb26c91a290453de16cc5fa33d1c4a97"), looks := false }, kinds := [], alts := [], laidByText := true, laidKinds := [.data, .data, .data, .data, .pinned], laidTests := true, laidLooks := .later }
def PolyBackUptoCardSaid : Prop := Claim7.holds Tryd.pinned (.plain (OpenSpec.upto polyBackSpec)) polyBackUptoCard

/-- THE SECOND FORM's CARD OF 'quantumlaw03.PolySmall'. -/
def polySmallUptoCard : Claim7 := { stood := { row := polySmallUptoRow, standIns := [], harness := (true, "82acb616d09280d0ec9a023ff038ea2bdb26c91a290453de16cc5fa33d1c4a97"), looks := false }, kinds := [], alts := [], laidByText := true, laidKinds := [.data, .data, .data, .data, .pinned], laidTests := true, laidLooks := .later }
def PolySmallUptoCardSaid : Prop := Claim7.holds Tryd.pinned (.plain (OpenSpec.upto polySmallSpec)) polySmallUptoCard
end Rows
end Go.Proofs.YtidkjcflppbpdaaDoor
