/- A closed fact: the function starts no goroutine. -/
import Derived.Test.YtfcephkliamgfaaGreatDoorCards
import Derived.KernelRfl
namespace Go.Proofs.YtfcephkliamgfaaGreatDoor
theorem r_goes : false = Rows.alarmNamesRow.goesBy Tryz.prog := by kernel_rfl
end Go.Proofs.YtfcephkliamgfaaGreatDoor
