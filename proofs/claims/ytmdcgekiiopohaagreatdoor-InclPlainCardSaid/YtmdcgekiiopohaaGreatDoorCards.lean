/-
  DERIVED. GIVEN WITH THE SEED: THE CARDS: each row of YtmdcgekiiopohaaGreatDoorRows.lean that lists a variable, with what it lists TIED to the program's text (the seventh form; the later family's looks); each row that meets fmt, with fmt's text TOLD by the authors' own Lean function (tested against real Go, not proved from fmt's source: count such statements apart). THE CARD IS WHAT COUNTS. Prove the row's statement (the work); the ties are given (YtmdcgekiiopohaaGreatDoorTie.lean); close each card by the builder's one call (the guide's Derived/Test/ToyasCard.lean, 'card_holds'). Laid BY PROGRAM, IN A SANDBOX (cutbox-door.mjs). By AI agents, Wed Nov 11 2026. No macro, syntax, notation, axiom, sorry.
-/
import Derived.Test.YtmdcgekiiopohaaGreatDoorRows
import GoSem.ClaimSeven
namespace Go.Proofs.YtmdcgekiiopohaaGreatDoor
namespace Rows

/-- THE TIED CARD OF 'columbarylaw10.InclPlain'. -/
def inclPlainCard : Claim7 := { stood := { row := inclPlainRow, standIns := [], harness := (true, "85be89cfb78ae097dde9ceab529a0648a630eb406bf3ebd5553ed2c1748a8492"), looks := false }, kinds := [], alts := [], laidByText := true, laidKinds := [.data, .data, .data], laidTests := true, laidLooks := .later }
def InclPlainCardSaid : Prop := Claim7.holds Tryz.pinned (.plain (OpenSpec.ofChange inclPlainSpec)) inclPlainCard

/-- THE SECOND FORM's CARD OF 'columbarylaw10.InclPlain'. -/
def inclPlainUptoCard : Claim7 := { stood := { row := inclPlainUptoRow, standIns := [], harness := (true, "85be89cfb78ae097dde9ceab529a0648a630eb406bf3ebd5553ed2c1748a8492"), looks := false }, kinds := [], alts := [], laidByText := true, laidKinds := [.data, .data, .data], laidTests := true, laidLooks := .later }
def InclPlainUptoCardSaid : Prop := Claim7.holds Tryz.pinned (.plain (OpenSpec.upto inclPlainSpec)) inclPlainUptoCard
end Rows
end Go.Proofs.YtmdcgekiiopohaaGreatDoor
