/- A table of proved calls: PRINTED BY memo.py. -/
import Derived.Test.YtfcephkliamgfaaGreatDoorKTab
import Derived.KernelRfl
namespace Go.Proofs.YtfcephkliamgfaaGreatDoor
open Go Go.Te
theorem kt323 : ke323.check E0 kT 4000 49 = true := by kernel_rfl
theorem kt324 : ke324.check E0 kT 4000 28 = true := by kernel_rfl
theorem kt325 : ke325.check E0 kT 4000 39 = true := by kernel_rfl
theorem kt326 : ke326.check E0 kT 4000 18 = true := by kernel_rfl
theorem kt327 : ke327.check E0 kT 4000 27 = true := by kernel_rfl
theorem kt328 : ke328.check E0 kT 4000 28 = true := by kernel_rfl
theorem kt329 : ke329.check E0 kT 4000 13 = true := by kernel_rfl
end Go.Proofs.YtfcephkliamgfaaGreatDoor
