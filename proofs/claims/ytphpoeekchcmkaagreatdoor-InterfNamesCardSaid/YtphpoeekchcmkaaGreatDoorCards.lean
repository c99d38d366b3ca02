/-
  DERIVED. GIVEN WITH THE SEED: THE CARDS: each row of YtphpoeekchcmkaaGreatDoorRows.lean that lists a variable, with what it lists TIED to the program's text (the seventh form; the later family's looks); each row that meets fmt, with fmt's text TOLD by the authors' own Lean function (tested against real Go, not proved from fmt's source: count such statements apart). THE CARD IS WHAT COUNTS. Prove the row's statement (the work); the ties are given (YtphpoeekchcmkaaGreatDoorTie.lean); close each card by the builder's one call (the guide's Derived/Test/ToyasCard.lean, 'card_holds'). Laid BY PROGRAM, IN A SANDBOX (cutbox-door.mjs). By AI agents, Wed Nov 11 2026. No macro, syntax, notation, axiom, sorry.
-/
import Derived.Test.YtphpoeekchcmkaaGreatDoorRows
import GoSem.ClaimSeven
namespace Go.Proofs.YtphpoeekchcmkaaGreatDoor
namespace Rows

/-- THE TIED CARD OF 'lamplighterlaw26.InterfNames'. -/
def interfNamesCard : Claim7 := { stood := { row := interfNamesRow, standIns := [], harness := (true, "4ad78b70c4ef301b2663ec99f2b1c2005487b52266b53f91898289bd730baba4"), looks := false }, kinds := [], alts := [], laidByText := true, laidKinds := [.data, .data, .widerDeep, .funcs], laidTests := true, laidLooks := .later }
def InterfNamesCardSaid : Prop := Claim7.holds Tryz.pinned (.plain (OpenSpec.ofChange interfNamesSpec)) interfNamesCard

/-- THE SECOND FORM's CARD OF 'lamplighterlaw26.InterfNames'. -/
def interfNamesUptoCard : Claim7 := { stood := { row := interfNamesUptoRow, standIns := [], harness := (true, "4ad78b70c4ef301b2663ec99f2b1c2005487b52266b53f91898289bd730baba4"), looks := false }, kinds := [], alts := [], laidByText := true, laidKinds := [.data, .data, .widerDeep, .funcs], laidTests := true, laidLooks := .later }
def InterfNamesUptoCardSaid : Prop := Claim7.holds Tryz.pinned (.plain (OpenSpec.upto interfNamesSpec)) interfNamesUptoCard
end Rows
end Go.Proofs.YtphpoeekchcmkaaGreatDoor
