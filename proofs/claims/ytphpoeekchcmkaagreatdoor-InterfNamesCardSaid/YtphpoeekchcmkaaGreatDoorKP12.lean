/- A table of proved calls: PRINTED BY memo.py. -/
import Derived.Test.YtphpoeekchcmkaaGreatDoorKTab
import Derived.KernelRfl
namespace Go.Proofs.YtphpoeekchcmkaaGreatDoor
open Go Go.Te
theorem kt336 : ke336.check E0 kT 4000 38 = true := by kernel_rfl
theorem kt337 : ke337.check E0 kT 4000 19 = true := by kernel_rfl
theorem kt338 : ke338.check E0 kT 4000 14 = true := by kernel_rfl
theorem kt339 : ke339.check E0 kT 4000 4 = true := by kernel_rfl
theorem kt340 : ke340.check E0 kT 4000 45 = true := by kernel_rfl
theorem kt341 : ke341.check E0 kT 4000 46 = true := by kernel_rfl
theorem kt342 : ke342.check E0 kT 4000 25 = true := by kernel_rfl
theorem kt343 : ke343.check E0 kT 4000 18 = true := by kernel_rfl
theorem kt344 : ke344.check E0 kT 4000 19 = true := by kernel_rfl
end Go.Proofs.YtphpoeekchcmkaaGreatDoor
