/-
  DERIVED. GIVEN WITH THE SEED: THE CARDS: each row of YtjpkldndeakkkaaDoorRows.lean that lists a variable, with what it lists TIED to the program's text (the seventh form; the later family's looks); each row that meets fmt, with fmt's text TOLD by the authors' own Lean function (tested against real Go, not proved from fmt's source: count such statements apart). THE CARD IS WHAT COUNTS. Prove the row's statement (the work); the ties are given (YtjpkldndeakkkaaDoorTie.lean); close each card by the builder's one call (the guide's Derived/Test/ToyasCard.lean, 'card_holds'). Laid BY PROGRAM, IN A SANDBOX (cutbox-door.mjs). By AI agents, Wed Nov 11 2026. No macro, syntax, notation, axiom, sorry.
-/
import Derived.Test.YtjpkldndeakkkaaDoorRows
import GoSem.ClaimSeven
namespace Go.Proofs.YtjpkldndeakkkaaDoor
namespace Rows

/-- THE TIED CARD OF 'quantumlaw20.MaskReads'. -/
def maskReadsCard : Claim7 := { stood := { row := maskReadsRow, standIns := [], harness := (true, "ee4d7820b8e775037669d93833089d434eb3a8550f4976e41df06810b9adb345"), looks := true }, kinds := [], alts := [], laidByText := true, laidKinds := [.data, .data, .data, .sentinel, .sentinel], laidTests := true, laidLooks := .later }
def MaskReadsCardSaid : Prop := Claim7.holds Tryd.pinned (.plain (OpenSpec.ofChange maskReadsSpec)) maskReadsCard

/-- THE TIED CARD OF 'quantumlaw20.MaskLists'. -/
def maskListsCard : Claim7 := { stood := { row := maskListsRow, standIns := [], harness := (true, "ee4d7820b8e775037669d93833089d434eb3a8550f4976e41df06810b9adb345"), looks := true }, kinds := [], alts := [], laidByText := true, laidKinds := [.data, .data, .data, .sentinel, .sentinel], laidTests := true, laidLooks := .later }
def MaskListsCardSaid : Prop := Claim7.holds Tryd.pinned (.plain (OpenSpec.ofChange maskListsSpec)) maskListsCard

/-- THE TIED CARD OF 'quantumlaw20.MaskTexts'. -/
def maskTextsCard : Claim7 := { stood := { row := maskTextsRow, standIns := [], harness := (true, "ee4d7820b8e775037669d93833089d434eb3a8550f4976e41df06810b9adb345"), looks := true }, kinds := [], alts := [], laidByText := true, laidKinds := [.data, .data, .data, .sentinel, .sentinel], laidTests := true, laidLooks := .later }
def MaskTextsCardSaid : Prop := Claim7.holds Tryd.pinned (.plain (OpenSpec.ofChange maskTextsSpec)) maskTextsCard

/-- THE TIED CARD OF 'quantumlaw20.MaskAround'. -/
def maskAroundCard : Claim7 := { stood := { row := maskAroundRow, standIns := [], harness := (true, "ee4d7820b8e775037669d93833089d434eb3a8550f4976e41df06810b9adb345"), looks := true }, kinds := [], alts := [], laidByText := true, laidKinds := [.data, .data, .data, .sentinel, .sentinel], laidTests := true, laidLooks := .later }
def MaskAroundCardSaid : Prop := Claim7.holds Tryd.pinned (.plain (OpenSpec.ofChange maskAroundSpec)) maskAroundCard

/-- THE TIED CARD OF 'quantumlaw20.MaskNearest'. -/
def maskNearestCard : Claim7 := { stood := { row := maskNearestRow, standIns := [], harness := (true, "ee4d7820b8e775037669d93833089d434eb3a8550f4976e41df06810b9adb345"), looks := true }, kinds := [], alts := [], laidByText := true, laidKinds := [.data, .data, .data, .sentinel, .sentinel], laidTests := true, laidLooks := .later }
def MaskNearestCardSaid : Prop := Claim7.holds Tryd.pinned (.plain (OpenSpec.ofChange maskNearestSpec)) maskNearestCard

/-- THE TIED CARD OF 'quantumlaw20.MaskTells'. -/
def maskTellsCard : Claim7 := { stood := { row := maskTellsRow, standIns := [], harness := (true, "ee4d7820b8e775037669d93833089d434eb3a8550f4976e41df06810b9adb345"), looks := true }, kinds := [], alts := [], laidByText := true, laidKinds := [.data, .data, .data, .sentinel, .sentinel], laidTests := true, laidLooks := .later }
def MaskTellsCardSaid : Prop := Claim7.holds Tryd.pinned (.plain (OpenSpec.ofChange maskTellsSpec)) maskTellsCard

/-- THE TIED CARD OF 'quantumlaw20.MaskSmall'. -/
def maskSmallCard : Claim7 := { stood := { row := maskSmallRow, standIns := [], harness := (true, "ee4d7820b8e775037669d93833089d434eb3a8550f4976e41df06810b9adb345"), looks := true }, kinds := [], alts := [], laidByText := true, laidKinds := [.data, .data, .data, .sentinel, .sentinel], laidTests := true, laidLooks := .later }
def MaskSmallCardSaid : Prop := Claim7.holds Tryd.pinned (.plain (OpenSpec.ofChange maskSmallSpec)) maskSmallCard

/-- THE TIED CARD OF 'quantumlaw20.MaskMembers'. -/
def maskMembersCard : Claim7 := { stood := { row := maskMembersRow, standIns := [], harness := (true, "ee4d7820b8e775037669d93833089d434eb3a8550f4976e41df06810b9adb345"), looks := true }, kinds := [], alts := [], laidByText := true, laidKinds := [.data, .data, .data, .sentinel, .sentinel], laidTests := true, laidLooks := .later }
def MaskMembersCardSaid : Prop := Claim7.holds Tryd.pinned (.plain (OpenSpec.ofChange maskMembersSpec)) maskMembersCard

/-- THE TIED CARD OF 'quantumlaw20.MaskWrong'. -/
def maskWrongCard : Claim7 := { stood := { row := maskWrongRow, standIns := [], harness := (true, "ee4d7820b8e775037669d93833089d434eb3a8550f4976e41df06810b9adb345"), looks := true }, kinds := [], alts := [], laidByText := true, laidKinds := [.data, .data, .data, .sentinel, .sentinel], laidTests := true, laidLooks := .later }
def MaskWrongCardSaid : Prop := Claim7.holds Tryd.pinned (.plain (OpenSpec.ofChange maskWrongSpec)) maskWrongCard

/-- THE SECOND FORM's CARD OF 'quantumlaw20.MaskReads'. -/
def maskReadsUptoCard : Claim7 := { stood := { row := maskReadsUptoRow, standIns := [], harness := (true, "ee4d7820b8e775037669d93833089d434eb3a8550f4976e41df06810b9adb345"), looks := true }, kinds := [], alts := [], laidByText := true, laidKinds := [.data, .data, .data, .sentinel, .sentinel], laidTests := true, laidLooks := .later }
def MaskReadsUptoCardSaid : Prop := Claim7.holds Tryd.pinned (.plain (OpenSpec.upto maskReadsSpec)) maskReadsUptoCard

/-- THE SECOND FORM's CARD OF 'quantumlaw20.MaskLists'. -/
def maskListsUptoCard : Claim7 := { stood := { row := maskListsUptoRow, standIns := [], harness := (true, "ee4d7820b8e775037669d93833089d434eb3a8550f4976e41df06810b9adb345"), looks := true }, kinds := [], alts := [], laidByText := true, laidKinds := [.data, .data, .data, .sentinel, .sentinel], laidTests := true, laidLooks := .later }
def MaskListsUptoCardSaid : Prop := Claim7.holds Tryd.pinned (.plain (OpenSpec.upto maskListsSpec)) maskListsUptoCard

/-- THE SECOND FORM's CARD OF 'quantumlaw20.MaskTexts'. -/
def maskTextsUptoCard : Claim7 := { stood := { row := maskTextsUptoRow, standIns := [], harness := (true, "ee4d7820b8e775037669d93833089d434eb3a8550f4976e41df06810b9adb345"), looks := true }, kinds := [], alts := [], laidByText := true, laidKinds := [.data, .data, .data, .sentinel, .sentinel], laidTests := true, laidLooks := .later }
def MaskTextsUptoCardSaid : Prop := Claim7.holds Tryd.pinned (.plain (OpenSpec.upto maskTextsSpec)) maskTextsUptoCard

/-- THE SECOND FORM's CARD OF 'quantumlaw20.MaskAround'. -/
def maskAroundUptoCard : Claim7 := { stood := { row := maskAroundUptoRow, standIns := [], harness := (true, "ee4d7820b8e775037669d93833089d434eb3a8550f4976e41df06810b9adb345"), looks := true }, kinds := [], alts := [], laidByText := true, laidKinds := [.data, .data, .data, .sentinel, .sentinel], laidTests := true, laidLooks := .later }
def MaskAroundUptoCardSaid : Prop := Claim7.holds Tryd.pinned (.plain (OpenSpec.upto maskAroundSpec)) maskAroundUptoCard

/-- THE SECOND FORM's CARD OF 'quantumlaw20.MaskNearest'. -/
def maskNearestUptoCard : Claim7 := { stood := { row := maskNearestUptoRow, standIns := [], harness := (true, "ee4d7820b8e775037669d93833089d434eb3a8550f4976e41df06810b9adb345"), looks := true }, kinds := [], alts := [], laidByText := true, laidKinds := [.data, .data, .data, .sentinel, .sentinel], laidTests := true, laidLooks := .later }
def MaskNearestUptoCardSaid : Prop := Claim7.holds Tryd.pinned (.plain (OpenSpec.upto maskNearestSpec)) maskNearestUptoCard

/-- THE SECOND FORM's CARD OF 'quantumlaw20.MaskTells'. -/
def maskTellsUptoCard : Claim7 := { stood := { row := maskTellsUptoRow, standIns := [], harness := (true, "ee4d7820b8e775037669d93833089d434eb3a8550f4976e41df06810b9adb345"), looks := true }, kinds := [], alts := [], laidByText := true, laidKinds := [.data, .data, .data, .sentinel, .sentinel], laidTests := true, laidLooks := .later }
def MaskTellsUptoCardSaid : Prop := Claim7.holds Tryd.pinned (.plain (OpenSpec.upto maskTellsSpec)) maskTellsUptoCard

/-- THE SECOND FORM's CARD OF 'quantumlaw20.MaskSmall'. -/
def maskSmallUptoCard : Claim7 := { stood := { row := maskSmallUptoRow, standIns := [], harness := (true, "ee4d7820b8e775037669d93833089d434eb3a8550f4976e41df06810b9adb345"), looks := true }, kinds := [], alts := [], laidByText := true, laidKinds := [.data, .data, .data, .sentinel, .sentinel], laidTests := true, laidLooks := .later }
def MaskSmallUptoCardSaid : Prop := Claim7.holds Tryd.pinned (.plain (OpenSpec.upto maskSmallSpec)) maskSmallUptoCard

/-- THE SECOND FORM's CARD OF 'quantumlaw20.MaskMembers'. -/
def maskMembersUptoCard : Claim7 := { stood := { row := maskMembersUptoRow, standIns := [], harness := (true, "ee4d7820b8e775037669d93833089d434eb3a8550f4976e41df06810b9adb345"), looks := true }, kinds := [], alts := [], laidByText := true, laidKinds := [.data, .data, .data, .sentinel, .sentinel], laidTests := true, laidLooks := .later }
def MaskMembersUptoCardSaid : Prop := Claim7.holds Tryd.pinned (.plain (OpenSpec.upto maskMembersSpec)) maskMembersUptoCard

/-- THE SECOND FORM's CARD OF 'quantumlaw20.MaskWrong'. -/
def maskWrongUptoCard : Claim7 := { stood := { row := maskWrongUptoRow, standIns := [], harness := (true, "ee4d7820b8e775037669d93833089d434eb3a8550f4976e41df06810b9adb345"), looks := true }, kinds := [], alts := [], laidByText := true, laidKinds := [.data, .data, .data, .sentinel, .sentinel], laidTests := true, laidLooks := .later }
def MaskWrongUptoCardSaid : Prop := Claim7.holds Tryd.pinned (.plain (OpenSpec.upto maskWrongSpec)) maskWrongUptoCard
end Rows
end Go.Proofs.YtjpkldndeakkkaaDoor
