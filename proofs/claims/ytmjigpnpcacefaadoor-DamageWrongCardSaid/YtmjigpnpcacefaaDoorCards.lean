/-
  DERIVED. GIVEN WITH THE SEED: THE CARDS: each row of YtmjigpnpcacefaaDoorRows.lean that lists a variable, with what it lists TIED to the program's text (the seventh form; the later family's looks); each row that meets fmt, with fmt's text TOLD by the authors' own Lean function (tested against real Go, not proved from fmt's source: count such statements apart). THE CARD IS WHAT COUNTS. Prove the row's statement (the work); the ties are given (YtmjigpnpcacefaaDoorTie.lean); close each card by the builder's one call (the guide's Derived/Test/ToyasCard.lean, 'card_holds'). Laid BY PROGRAM, IN A SANDBOX (cutbox-door.mjs). By AI agents, Wed Nov 11 2026. No macro, syntax, notation, axiom, sorry.
-/
import Derived.Test.YtmjigpnpcacefaaDoorRows
import GoSem.ClaimSeven
namespace Go.Proofs.YtmjigpnpcacefaaDoor
namespace Rows

/-- THE TIED CARD OF 'quantumlaw13.DamageBursts'. -/
def damageBurstsCard : Claim7 := { stood := { row := damageBurstsRow, standIns := [], harness := (true, "ba83fb23f2151ee523bba34f25d54469a96de5a7eb5130223341f75211748f02"), looks := false }, kinds := [], alts := [], laidByText := true, laidKinds := [.data], laidTests := true, laidLooks := .later }
def DamageBurstsCardSaid : Prop := Claim7.holds Tryd.pinned (.plain (OpenSpec.ofChange damageBurstsSpec)) damageBurstsCard

/-- THE TIED CARD OF 'quantumlaw13.DamagePieces'. -/
def damagePiecesCard : Claim7 := { stood := { row := damagePiecesRow, standIns := [], harness := (true, "ba83fb23f2151ee523bba34f25d54469a96de5a7eb5130223341f75211748f02"), looks := false }, kinds := [], alts := [], laidByText := true, laidKinds := [.data], laidTests := true, laidLooks := .later }
def DamagePiecesCardSaid : Prop := Claim7.holds Tryd.pinned (.plain (OpenSpec.ofChange damagePiecesSpec)) damagePiecesCard

/-- THE TIED CARD OF 'quantumlaw13.DamageTwice'. -/
def damageTwiceCard : Claim7 := { stood := { row := damageTwiceRow, standIns := [], harness := (true, "ba83fb23f2151ee523bba34f25d54469a96de5a7eb5130223341f75211748f02"), looks := false }, kinds := [], alts := [], laidByText := true, laidKinds := [.data], laidTests := true, laidLooks := .later }
def DamageTwiceCardSaid : Prop := Claim7.holds Tryd.pinned (.plain (OpenSpec.ofChange damageTwiceSpec)) damageTwiceCard

/-- THE TIED CARD OF 'quantumlaw13.DamageBurst'. -/
def damageBurstCard : Claim7 := { stood := { row := damageBurstRow, standIns := [], harness := (true, "ba83fb23f2151ee523bba34f25d54469a96de5a7eb5130223341f75211748f02"), looks := false }, kinds := [], alts := [], laidByText := true, laidKinds := [.data], laidTests := true, laidLooks := .later }
def DamageBurstCardSaid : Prop := Claim7.holds Tryd.pinned (.plain (OpenSpec.ofChange damageBurstSpec)) damageBurstCard

/-- THE TIED CARD OF 'quantumlaw13.DamageCopies'. -/
def damageCopiesCard : Claim7 := { stood := { row := damageCopiesRow, standIns := [], harness := (true, "ba83fb23f2151ee523bba34f25d54469a96de5a7eb5130223341f75211748f02"), looks := false }, kinds := [], alts := [], laidByText := true, laidKinds := [.data], laidTests := true, laidLooks := .later }
def DamageCopiesCardSaid : Prop := Claim7.holds Tryd.pinned (.plain (OpenSpec.ofChange damageCopiesSpec)) damageCopiesCard

/-- THE TIED CARD OF 'quantumlaw13.DamageWrong'. -/
def damageWrongCard : Claim7 := { stood := { row := damageWrongRow, standIns := [], harness := (true, "ba83fb23f2151ee523bba34f25d54469a96de5a7eb5130223341f75211748f02"), looks := false }, kinds := [], alts := [], laidByText := true, laidKinds := [.data], laidTests := true, laidLooks := .later }
def DamageWrongCardSaid : Prop := Claim7.holds Tryd.pinned (.plain (OpenSpec.ofChange damageWrongSpec)) damageWrongCard

/-- THE TIED CARD OF 'quantumlaw13.DamageFound'. -/
def damageFoundCard : Claim7 := { stood := { row := damageFoundRow, standIns := [], harness := (true, "ba83fb23f2151ee523bba34f25d54469a96de5a7eb5130223341f75211748f02"), looks := false }, kinds := [], alts := [], laidByText := true, laidKinds := [.data], laidTests := true, laidLooks := .later }
def DamageFoundCardSaid : Prop := Claim7.holds Tryd.pinned (.plain (OpenSpec.ofChange damageFoundSpec)) damageFoundCard

/-- THE SECOND FORM's CARD OF 'quantumlaw13.DamageBursts'. -/
def damageBurstsUptoCard : Claim7 := { stood := { row := damageBurstsUptoRow, standIns := [], harness := (true, "ba83fb23f2151ee523bba34f25d54469a96de5a7eb5130223341f75211748f02"), looks := false }, kinds := [], alts := [], laidByText := true, laidKinds := [.data], laidTests := true, laidLooks := .later }
def DamageBurstsUptoCardSaid : Prop := Claim7.holds Tryd.pinned (.plain (OpenSpec.upto damageBurstsSpec)) damageBurstsUptoCard

/-- THE SECOND FORM's CARD OF 'quantumlaw13.DamagePieces'. -/
def damagePiecesUptoCard : Claim7 := { stood := { row := damagePiecesUptoRow, standIns := [], harness := (true, "ba83fb23f2151ee523bba34f25d54469a96de5a7eb5130223341f75211748f02"), looks := false }, kinds := [], alts := [], laidByText := true, laidKinds := [.data], laidTests := true, laidLooks := .later }
def DamagePiecesUptoCardSaid : Prop := Claim7.holds Tryd.pinned (.plain (OpenSpec.upto damagePiecesSpec)) damagePiecesUptoCard

/-- THE SECOND FORM's CARD OF 'quantumlaw13.DamageTwice'. -/
def damageTwiceUptoCard : Claim7 := { stood := { row := damageTwiceUptoRow, standIns := [], harness := (true, "ba83fb23f2151ee523bba34f25d54469a96de5a7eb5130223341f75211748f02"), looks := false }, kinds := [], alts := [], laidByText := true, laidKinds := [.data], laidTests := true, laidLooks := .later }
def DamageTwiceUptoCardSaid : Prop := Claim7.holds Tryd.pinned (.plain (OpenSpec.upto damageTwiceSpec)) damageTwiceUptoCard

/-- THE SECOND FORM's CARD OF 'quantumlaw13.DamageBurst'. -/
def damageBurstUptoCard : Claim7 := { stood := { row := damageBurstUptoRow, standIns := [], harness := (true, "ba83fb23f2151ee523bba34f25d54469a96de5a7eb5130223341f75211748f02"), looks := false }, kinds := [], alts := [], laidByText := true, laidKinds := [.data], laidTests := true, laidLooks := .later }
def DamageBurstUptoCardSaid : Prop := Claim7.holds Tryd.pinned (.plain (OpenSpec.upto damageBurstSpec)) damageBurstUptoCard

/-- THE SECOND FORM's CARD OF 'quantumlaw13.DamageCopies'. -/
def damageCopiesUptoCard : Claim7 := { stood := { row := damageCopiesUptoRow, standIns := [], harness := (true, "ba83fb23f2151ee523bba34f25d54469a96de5a7eb5130223341f75211748f02"), looks := false }, kinds := [], alts := [], laidByText := true, laidKinds := [.data], laidTests := true, laidLooks := .later }
def DamageCopiesUptoCardSaid : Prop := Claim7.holds Tryd.pinned (.plain (OpenSpec.upto damageCopiesSpec)) damageCopiesUptoCard

/-- THE SECOND FORM's CARD OF 'quantumlaw13.DamageWrong'. -/
def damageWrongUptoCard : Claim7 := { stood := { row := damageWrongUptoRow, standIns := [], harness := (true, "ba83fb23f2151ee523bba34f25d54469a96de5a7eb5130223341f75211748f02"), looks := false }, kinds := [], alts := [], laidByText := true, laidKinds := [.data], laidTests := true, laidLooks := .later }
def DamageWrongUptoCardSaid : Prop := Claim7.holds Tryd.pinned (.plain (OpenSpec.upto damageWrongSpec)) damageWrongUptoCard

/-- THE SECOND FORM's CARD OF 'quantumlaw13.DamageFound'. -/
def damageFoundUptoCard : Claim7 := { stood := { row := damageFoundUptoRow, standIns := [], harness := (true, "ba83fb23f2151ee523bba34f25d54469a96de5a7eb5130223341f75211748f02"), looks := false }, kinds := [], alts := [], laidByText := true, laidKinds := [.data], laidTests := true, laidLooks := .later }
def DamageFoundUptoCardSaid : Prop := Claim7.holds Tryd.pinned (.plain (OpenSpec.upto damageFoundSpec)) damageFoundUptoCard
end Rows
end Go.Proofs.YtmjigpnpcacefaaDoor
