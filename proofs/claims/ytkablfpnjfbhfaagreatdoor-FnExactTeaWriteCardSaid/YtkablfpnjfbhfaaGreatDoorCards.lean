/-
  DERIVED. GIVEN WITH THE SEED: THE CARDS: each row of YtkablfpnjfbhfaaGreatDoorRows.lean that lists a variable, with what it lists TIED to the program's text (the seventh form; the later family's looks); each row that meets fmt, with fmt's text TOLD by the authors' own Lean function (tested against real Go, not proved from fmt's source: count such statements apart). THE CARD IS WHAT COUNTS. Prove the row's statement (the work); the ties are given (YtkablfpnjfbhfaaGreatDoorTie.lean); close each card by the builder's one call (the guide's Derived/Test/ToyasCard.lean, 'card_holds'). Laid BY PROGRAM, IN A SANDBOX (cutbox-door.mjs). By AI agents, Wed Nov 11 2026. No macro, syntax, notation, axiom, sorry.
-/
import Derived.Test.YtkablfpnjfbhfaaGreatDoorRows
import GoSem.ClaimSeven
namespace Go.Proofs.YtkablfpnjfbhfaaGreatDoor
namespace Rows

/-- THE TIED CARD OF 'laws.FnExactTeaWrite'. -/
def fnExactTeaWriteCard : Claim7 := { stood := { row := fnExactTeaWriteRow, standIns := [], harness := (true, "72b5546bbf581eadd99228548687beac2c9e3b946264cd11eb172f2734394c0e"), looks := false }, kinds := [], alts := [], laidByText := true, laidKinds := [.data, .data, .data, .widerDeep, .widerDeep], laidTests := true, laidLooks := .later }
def FnExactTeaWriteCardSaid : Prop := Claim7.holds Tryz.pinned (.plain (OpenSpec.ofChange fnExactTeaWriteSpec)) fnExactTeaWriteCard

/-- THE SECOND FORM's CARD OF 'laws.FnExactTeaWrite'. -/
def fnExactTeaWriteUptoCard : Claim7 := { stood := { row := fnExactTeaWriteUptoRow, standIns := [], harness := (true, "72b5546bbf581eadd99228548687beac2c9e3b946264cd11eb172f2734394c0e"), looks := false }, kinds := [], alts := [], laidByText := true, laidKinds := [.data, .data, .data, .widerDeep, .widerDeep], laidTests := true, laidLooks := .later }
def FnExactTeaWriteUptoCardSaid : Prop := Claim7.holds Tryz.pinned (.plain (OpenSpec.upto fnExactTeaWriteSpec)) fnExactTeaWriteUptoCard
end Rows
end Go.Proofs.YtkablfpnjfbhfaaGreatDoor
