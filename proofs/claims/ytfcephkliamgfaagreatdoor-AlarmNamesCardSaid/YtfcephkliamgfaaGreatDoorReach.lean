/- Closed facts of the function's road: each by itself, for the memory's sake. -/
import Derived.Test.YtfcephkliamgfaaGreatDoorRows
import Derived.KernelRfl
namespace Go.Proofs.YtfcephkliamgfaaGreatDoor
theorem r_inPlace : Tryz.prog.inPlace 3 = Rows.alarmNamesRow.inPlace := by kernel_rfl
theorem r_unfollowed : Tryz.prog.unfollowed 3 = Rows.alarmNamesRow.unfollowed := by kernel_rfl
theorem r_recurses : Tryz.prog.recurses 3 = Rows.alarmNamesRow.recurses := by kernel_rfl
theorem r_named : Tryz.prog.varsNamed 3 = Rows.alarmNamesRow.named := by kernel_rfl
end Go.Proofs.YtfcephkliamgfaaGreatDoor
