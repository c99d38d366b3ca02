/- A closed fact: the function starts no goroutine. -/
import Derived.Test.YtphpoeekchcmkaaGreatDoorCards
import Derived.KernelRfl
namespace Go.Proofs.YtphpoeekchcmkaaGreatDoor
theorem r_goes : false = Rows.interfNamesRow.goesBy Tryz.prog := by kernel_rfl
end Go.Proofs.YtphpoeekchcmkaaGreatDoor
