/-
  DERIVED. GIVEN WITH THE SEED: THE CARDS: each row of YtfcephkliamgfaaGreatDoorRows.lean that lists a variable, with what it lists TIED to the program's text (the seventh form; the later family's looks); each row that meets fmt, with fmt's text TOLD by the authors' own Lean function (tested against real Go, not proved from fmt's source: count such statements apart). THE CARD IS WHAT COUNTS. Prove the row's statement (the work); the ties are given (YtfcephkliamgfaaGreatDoorTie.lean); close each card by the builder's one call (the guide's Derived/Test/ToyasCard.lean, 'card_holds'). Laid BY PROGRAM, IN A SANDBOX (cutbox-door.mjs). By AI agents, Wed Nov 11 2026. No macro, syntax, notation, axiom, sorry.
-/
import Derived.Test.YtfcephkliamgfaaGreatDoorRows
import GoSem.ClaimSeven
namespace Go.Proofs.YtfcephkliamgfaaGreatDoor
namespace Rows

/-- THE TIED CARD OF 'lamplighterlaw28.AlarmNames'. -/
def alarmNamesCard : Claim7 := { stood := { row := alarmNamesRow, standIns := [], harness := (true, "54861bde0cc6660ccd30dbf899af9a37bc14c3643ad016dec07b184dcf1ab8d9"), looks := false }, kinds := [], alts := [], laidByText := true, laidKinds := [.data, .data, .widerDeep, .funcs], laidTests := true, laidLooks := .later }
def AlarmNamesCardSaid : Prop := Claim7.holds Tryz.pinned (.plain (OpenSpec.ofChange alarmNamesSpec)) alarmNamesCard

/-- THE SECOND FORM's CARD OF 'lamplighterlaw28.AlarmNames'. -/
def alarmNamesUptoCard : Claim7 := { stood := { row := alarmNamesUptoRow, standIns := [], harness := (true, "54861bde0cc6660ccd30dbf899af9a37bc14c3643ad016dec07b184dcf1ab8d9"), looks := false }, kinds := [], alts := [], laidByText := true, laidKinds := [.data, .data, .widerDeep, .funcs], laidTests := true, laidLooks := .later }
def AlarmNamesUptoCardSaid : Prop := Claim7.holds Tryz.pinned (.plain (OpenSpec.upto alarmNamesSpec)) alarmNamesUptoCard
end Rows
end Go.Proofs.YtfcephkliamgfaaGreatDoor
