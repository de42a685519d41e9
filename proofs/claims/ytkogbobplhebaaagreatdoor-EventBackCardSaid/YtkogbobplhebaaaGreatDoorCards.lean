/-
  DERIVED. GIVEN WITH THE SEED: THE CARDS: each row of YtkogbobplhebaaaGreatDoorRows.lean that lists a variable, with what it lists TIED to the program's text (the seventh form; the later family's looks); each row that meets fmt, with fmt's text TOLD by the authors' own Lean function (tested against real Go, not proved from fmt's source: count such statements apart). THE CARD IS WHAT COUNTS. Prove the row's statement (the work); the ties are given (YtkogbobplhebaaaGreatDoorTie.lean); close each card by the builder's one call (the guide's Derived/Test/ToyasCard.lean, 'card_holds'). Laid BY PROGRAM, IN A SANDBOX (cutbox-door.mjs). By AI agents, Wed Nov 11 2026. No macro, syntax, notation, axiom, sorry.
-/
import Derived.Test.YtkogbobplhebaaaGreatDoorRows
import GoSem.ClaimSeven
namespace Go.Proofs.YtkogbobplhebaaaGreatDoor
namespace Rows

/-- THE TIED CARD OF 'codicillaw21.EventBytes'. -/
def eventBytesCard : Claim7 := { stood := { row := eventBytesRow, standIns := [], harness := (true, "697668503214dcd0bf8c8551f0f2f4e1eecdd01284f92f577fa4cc9469e9cce8"), looks := true }, kinds := [], alts := [], laidByText := true, laidKinds := [.data, .pinned], laidTests := true, laidLooks := .later }
def EventBytesCardSaid : Prop := Claim7.holds Tryz.pinned (.plain (OpenSpec.ofChange eventBytesSpec)) eventBytesCard

/-- THE TIED CARD OF 'codicillaw21.EventBack'. -/
def eventBackCard : Claim7 := { stood := { row := eventBackRow, standIns := [], harness := (true, "697668503214dcd0bf8c8551f0f2f4e1eecdd01284f92f577fa4cc9469e9cce8"), looks := true }, kinds := [], alts := [], laidByText := true, laidKinds := [.data, .pinned], laidTests := true, laidLooks := .later }
def EventBackCardSaid : Prop := Claim7.holds Tryz.pinned (.plain (OpenSpec.ofChange eventBackSpec)) eventBackCard

/-- THE TIED CARD OF 'codicillaw21.EventOne'. -/
def eventOneCard : Claim7 := { stood := { row := eventOneRow, standIns := [], harness := (true, "697668503214dcd0bf8c8551f0f2f4e1eecdd01284f92f577fa4cc9469e9cce8"), looks := true }, kinds := [], alts := [], laidByText := true, laidKinds := [.data, .pinned], laidTests := true, laidLooks := .later }
def EventOneCardSaid : Prop := Claim7.holds Tryz.pinned (.plain (OpenSpec.ofChange eventOneSpec)) eventOneCard

/-- THE SECOND FORM's CARD OF 'codicillaw21.EventBytes'. -/
def eventBytesUptoCard : Claim7 := { stood := { row := eventBytesUptoRow, standIns := [], harness := (true, "697668503214dcd0bf8c8551f0f2f4e1eecdd01284f92f577fa4cc9469e9cce8"), looks := true }, kinds := [], alts := [], laidByText := true, laidKinds := [.data, .pinned], laidTests := true, laidLooks := .later }
def EventBytesUptoCardSaid : Prop := Claim7.holds Tryz.pinned (.plain (OpenSpec.upto eventBytesSpec)) eventBytesUptoCard

/-- THE SECOND FORM's CARD OF 'codicillaw21.EventBack'. -/
def eventBackUptoCard : Claim7 := { stood := { row := eventBackUptoRow, standIns := [], harness := (true, "697668503214dcd0bf8c8551f0f2f4e1eecdd01284f92f577fa4cc9469e9cce8"), looks := true }, kinds := [], alts := [], laidByText := true, laidKinds := [.data, .pinned], laidTests := true, laidLooks := .later }
def EventBackUptoCardSaid : Prop := Claim7.holds Tryz.pinned (.plain (OpenSpec.upto eventBackSpec)) eventBackUptoCard

/-- THE SECOND FORM's CARD OF 'codicillaw21.EventOne'. -/
def eventOneUptoCard : Claim7 := { stood := { row := eventOneUptoRow, standIns := [], harness := (true, "697668503214dcd0bf8c8551f0f2f4e1eecdd01284f92f577fa4cc9469e9cce8"), looks := true }, kinds := [], alts := [], laidByText := true, laidKinds := [.data, .pinned], laidTests := true, laidLooks := .later }
def EventOneUptoCardSaid : Prop := Claim7.holds Tryz.pinned (.plain (OpenSpec.upto eventOneSpec)) eventOneUptoCard
end Rows
end Go.Proofs.YtkogbobplhebaaaGreatDoor
