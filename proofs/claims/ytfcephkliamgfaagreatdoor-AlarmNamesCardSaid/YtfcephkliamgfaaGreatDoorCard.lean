/- AlarmNames: the tied card: the call returns true, where the listed package variables hold what the program's text lays in them. -/
import Derived.Test.YtfcephkliamgfaaGreatDoorHolds
import Derived.Test.YtfcephkliamgfaaGreatDoorGoes
namespace Go.Proofs.YtfcephkliamgfaaGreatDoor
open Go.ChangeShapes Go.WideShapes Go.ChangeAt Go.RowKit
theorem alarmNames_card_holds : Rows.AlarmNamesCardSaid :=
  Claim7.holds_tied_plain_at .later [] [.data, .data, .widerDeep, .funcs] true (true, "54861bde0cc6660ccd30dbf899af9a37bc14c3643ad016dec07b184dcf1ab8d9") false
    alarmNames_holds (fun _ h => by cases h) (by kernel_rfl) (fun _ h => by cases h) alarmNames_row_tie rfl ⟨rfl, rfl⟩ (by kernel_rfl) rfl
    (fun f fn hf hfn => by
      obtain rfl : f = 3 := Option.some.inj ((show Tryz.prog.funcNamed "lamplighter/lamplighterlaw28.AlarmNames" = some 3 by kernel_rfl).symm.trans hf) |>.symm
      obtain rfl : fn = Tryz.f3 := (Option.some.inj (Tryz.func3.symm.trans hfn)).symm
      exact ⟨by kernel_rfl, fun j t ht => by
        rw [Tryz.params3] at ht
        simp at ht⟩)
    r_goes
#print axioms alarmNames_card_holds
end Go.Proofs.YtfcephkliamgfaaGreatDoor
