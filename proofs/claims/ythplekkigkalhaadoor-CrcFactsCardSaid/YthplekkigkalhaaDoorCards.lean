/-
  DERIVED. GIVEN WITH THE SEED: THE CARDS: each row of YthplekkigkalhaaDoorRows.lean that lists a variable, with what it lists TIED to the program's text (the seventh form; the later family's looks); each row that meets fmt, with fmt's text TOLD by the authors' own Lean function (tested against real Go, not proved from fmt's source: count such statements apart). THE CARD IS WHAT COUNTS. Prove the row's statement (the work); the ties are given (YthplekkigkalhaaDoorTie.lean); close each card by the builder's one call (the guide's Derived/Test/ToyasCard.lean, 'card_holds'). Laid BY PROGRAM, IN A SANDBOX (cutbox-door.mjs). By AI agents, Wed Nov 11 2026. No macro, syntax, notation, axiom, sorry.
-/
import Derived.Test.YthplekkigkalhaaDoorRows
import GoSem.ClaimSeven
namespace Go.Proofs.YthplekkigkalhaaDoor
namespace Rows

/-- THE TIED CARD OF 'quantumlaw04.CrcFacts'. -/
def crcFactsCard : Claim7 := { stood := { row := crcFactsRow, standIns := [], harness := (true, "12ee0563d837dd14b15b4d46d11215ad7c4387920f2fa65435b3c93a3be549ce"), looks := false }, kinds := [], alts := [], laidByText := true, laidKinds := [.data], laidTests := true, laidLooks := .later }
def CrcFactsCardSaid : Prop := Claim7.holds Tryd.pinned (.plain (OpenSpec.ofChange crcFactsSpec)) crcFactsCard

/-- THE SECOND FORM's CARD OF 'quantumlaw04.CrcFacts'. -/
def crcFactsUptoCard : Claim7 := { stood := { row := crcFactsUptoRow, standIns := [], harness := (true, "12ee0563d837dd14b15b4d46d11215ad7c4387920f2fa65435b3c93a3be549ce"), looks := false }, kinds := [], alts := [], laidByText := true, laidKinds := [.data], laidTests := true, laidLooks := .later }
def CrcFactsUptoCardSaid : Prop := Claim7.holds Tryd.pinned (.plain (OpenSpec.upto crcFactsSpec)) crcFactsUptoCard
end Rows
end Go.Proofs.YthplekkigkalhaaDoor
