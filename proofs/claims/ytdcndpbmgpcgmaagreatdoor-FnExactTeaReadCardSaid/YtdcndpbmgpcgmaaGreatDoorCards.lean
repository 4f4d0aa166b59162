/-
  DERIVED. GIVEN WITH THE SEED: THE CARDS: each row of YtdcndpbmgpcgmaaGreatDoorRows.lean that lists a variable, with what it lists TIED to the program's text (the seventh form; the later family's looks); each row that meets fmt, with fmt's text TOLD by the authors' own Lean function (tested against real Go, not proved from fmt's source: count such statements apart). THE CARD IS WHAT COUNTS. Prove the row's statement (the work); the ties are given (YtdcndpbmgpcgmaaGreatDoorTie.lean); close each card by the builder's one call (the guide's Derived/Test/ToyasCard.lean, 'card_holds'). Laid BY PROGRAM, IN A SANDBOX (cutbox-door.mjs). By AI agents, Wed Nov 11 2026. No macro, syntax, notation, axiom, sorry.
-/
import Derived.Test.YtdcndpbmgpcgmaaGreatDoorRows
import GoSem.ClaimSeven
namespace Go.Proofs.YtdcndpbmgpcgmaaGreatDoor
namespace Rows

/-- THE TIED CARD OF 'laws.FnExactTeaRead'. -/
def fnExactTeaReadCard : Claim7 := { stood := { row := fnExactTeaReadRow, standIns := [], harness := (true, "b8a3067c1113addbaed31b05ccf46041408e52d5cc5d9f38b5f352923701050a"), looks := true }, kinds := [], alts := [], laidByText := true, laidKinds := [.data, .data, .data, .data, .sentinel, .sentinel, .widerDeep, .widerDeep, .pinned], laidTests := true, laidLooks := .later }
def FnExactTeaReadCardSaid : Prop := Claim7.holds Tryz.pinned (.plain (OpenSpec.ofChange fnExactTeaReadSpec)) fnExactTeaReadCard

/-- THE SECOND FORM's CARD OF 'laws.FnExactTeaRead'. -/
def fnExactTeaReadUptoCard : Claim7 := { stood := { row := fnExactTeaReadUptoRow, standIns := [], harness := (true, "b8a3067c1113addbaed31b05ccf46041408e52d5cc5d9f38b5f352923701050a"), looks := true }, kinds := [], alts := [], laidByText := true, laidKinds := [.data, .data, .data, .data, .sentinel, .sentinel, .widerDeep, .widerDeep, .pinned], laidTests := true, laidLooks := .later }
def FnExactTeaReadUptoCardSaid : Prop := Claim7.holds Tryz.pinned (.plain (OpenSpec.upto fnExactTeaReadSpec)) fnExactTeaReadUptoCard
end Rows
end Go.Proofs.YtdcndpbmgpcgmaaGreatDoor
