/- InterfNames: the tied card: the call returns true, where the listed package variables hold what the program's text lays in them. -/
import Derived.Test.YtphpoeekchcmkaaGreatDoorHolds
import Derived.Test.YtphpoeekchcmkaaGreatDoorGoes
namespace Go.Proofs.YtphpoeekchcmkaaGreatDoor
open Go.ChangeShapes Go.WideShapes Go.ChangeAt Go.RowKit
theorem interfNames_card_holds : Rows.InterfNamesCardSaid :=
  Claim7.holds_tied_plain_at .later [] [.data, .data, .widerDeep, .funcs] true (true, "4ad78b70c4ef301b2663ec99f2b1c2005487b52266b53f91898289bd730baba4") false
    interfNames_holds (fun _ h => by cases h) (by kernel_rfl) (fun _ h => by cases h) interfNames_row_tie rfl ⟨rfl, rfl⟩ (by kernel_rfl) rfl
    (fun f fn hf hfn => by
      obtain rfl : f = 3 := Option.some.inj ((show Tryz.prog.funcNamed "lamplighter/lamplighterlaw26.InterfNames" = some 3 by kernel_rfl).symm.trans hf) |>.symm
      obtain rfl : fn = Tryz.f3 := (Option.some.inj (Tryz.func3.symm.trans hfn)).symm
      exact ⟨by kernel_rfl, fun j t ht => by
        rw [Tryz.params3] at ht
        simp at ht⟩)
    r_goes
#print axioms interfNames_card_holds
end Go.Proofs.YtphpoeekchcmkaaGreatDoor
