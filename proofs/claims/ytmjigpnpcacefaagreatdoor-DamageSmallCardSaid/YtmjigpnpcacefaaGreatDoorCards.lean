/-
  DERIVED. GIVEN WITH THE SEED: THE CARDS: each row of YtmjigpnpcacefaaGreatDoorRows.lean that lists a variable, with what it lists TIED to the program's text (the seventh form; the later family's looks); each row that meets fmt, with fmt's text TOLD by the authors' own Lean function (tested against real Go, not proved from fmt's source: count such statements apart). THE CARD IS WHAT COUNTS. Prove the row's statement (the work); the ties are given (YtmjigpnpcacefaaGreatDoorTie.lean); close each card by the builder's one call (the guide's Derived/Test/ToyasCard.lean, 'card_holds'). Laid BY PROGRAM, IN A SANDBOX (cutbox-door.mjs). By AI agents, Wed Nov 11 2026. No macro, syntax, notation, axiom, sorry.
-/
import Derived.Test.YtmjigpnpcacefaaGreatDoorRows
import GoSem.ClaimSeven
namespace Go.Proofs.YtmjigpnpcacefaaGreatDoor
namespace Rows

/-- THE TIED CARD OF 'quantumlaw13.DamageFlips'. -/
def damageFlipsCard : Claim7 := { stood := { row := damageFlipsRow, standIns := [], harness := (true, "b3a00bb63edfbc3e8edf8a29a3fc38398b4ce03c9e211b51a6e4aea13bf714df"), looks := false }, kinds := [], alts := [], laidByText := true, laidKinds := [.data], laidTests := true, laidLooks := .later }
def DamageFlipsCardSaid : Prop := Claim7.holds Tryz.pinned (.plain (OpenSpec.ofChange damageFlipsSpec)) damageFlipsCard

/-- THE TIED CARD OF 'quantumlaw13.DamageSmall'. -/
def damageSmallCard : Claim7 := { stood := { row := damageSmallRow, standIns := [], harness := (true, "b3a00bb63edfbc3e8edf8a29a3fc38398b4ce03c9e211b51a6e4aea13bf714df"), looks := false }, kinds := [], alts := [], laidByText := true, laidKinds := [.data], laidTests := true, laidLooks := .later }
def DamageSmallCardSaid : Prop := Claim7.holds Tryz.pinned (.plain (OpenSpec.ofChange damageSmallSpec)) damageSmallCard

/-- THE SECOND FORM's CARD OF 'quantumlaw13.DamageFlips'. -/
def damageFlipsUptoCard : Claim7 := { stood := { row := damageFlipsUptoRow, standIns := [], harness := (true, "b3a00bb63edfbc3e8edf8a29a3fc38398b4ce03c9e211b51a6e4aea13bf714df"), looks := false }, kinds := [], alts := [], laidByText := true, laidKinds := [.data], laidTests := true, laidLooks := .later }
def DamageFlipsUptoCardSaid : Prop := Claim7.holds Tryz.pinned (.plain (OpenSpec.upto damageFlipsSpec)) damageFlipsUptoCard

/-- THE SECOND FORM's CARD OF 'quantumlaw13.DamageSmall'. -/
def damageSmallUptoCard : Claim7 := { stood := { row := damageSmallUptoRow, standIns := [], harness := (true, "b3a00bb63edfbc3e8edf8a29a3fc38398b4ce03c9e211b51a6e4aea13bf714df"), looks := false }, kinds := [], alts := [], laidByText := true, laidKinds := [.data], laidTests := true, laidLooks := .later }
def DamageSmallUptoCardSaid : Prop := Claim7.holds Tryz.pinned (.plain (OpenSpec.upto damageSmallSpec)) damageSmallUptoCard
end Rows
end Go.Proofs.YtmjigpnpcacefaaGreatDoor
