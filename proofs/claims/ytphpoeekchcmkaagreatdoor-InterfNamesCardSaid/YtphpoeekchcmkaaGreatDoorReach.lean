/- Closed facts of the function's road: each by itself, for the memory's sake. -/
import Derived.Test.YtphpoeekchcmkaaGreatDoorRows
import Derived.KernelRfl
namespace Go.Proofs.YtphpoeekchcmkaaGreatDoor
theorem r_inPlace : Tryz.prog.inPlace 3 = Rows.interfNamesRow.inPlace := by kernel_rfl
theorem r_unfollowed : Tryz.prog.unfollowed 3 = Rows.interfNamesRow.unfollowed := by kernel_rfl
theorem r_recurses : Tryz.prog.recurses 3 = Rows.interfNamesRow.recurses := by kernel_rfl
theorem r_named : Tryz.prog.varsNamed 3 = Rows.interfNamesRow.named := by kernel_rfl
end Go.Proofs.YtphpoeekchcmkaaGreatDoor
