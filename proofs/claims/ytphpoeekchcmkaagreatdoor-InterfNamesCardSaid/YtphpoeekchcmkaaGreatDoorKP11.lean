/- A table of proved calls: PRINTED BY memo.py. -/
import Derived.Test.YtphpoeekchcmkaaGreatDoorKTab
import Derived.KernelRfl
namespace Go.Proofs.YtphpoeekchcmkaaGreatDoor
open Go Go.Te
theorem kt313 : ke313.check E0 kT 4000 106 = true := by kernel_rfl
theorem kt314 : ke314.check E0 kT 4000 104 = true := by kernel_rfl
theorem kt315 : ke315.check E0 kT 4000 67 = true := by kernel_rfl
theorem kt316 : ke316.check E0 kT 4000 137 = true := by kernel_rfl
theorem kt317 : ke317.check E0 kT 4000 97 = true := by kernel_rfl
theorem kt318 : ke318.check E0 kT 4000 63 = true := by kernel_rfl
theorem kt319 : ke319.check E0 kT 4000 98 = true := by kernel_rfl
theorem kt320 : ke320.check E0 kT 4000 65 = true := by kernel_rfl
theorem kt321 : ke321.check E0 kT 4000 102 = true := by kernel_rfl
theorem kt322 : ke322.check E0 kT 4000 141 = true := by kernel_rfl
theorem kt323 : ke323.check E0 kT 4000 105 = true := by kernel_rfl
theorem kt324 : ke324.check E0 kT 4000 106 = true := by kernel_rfl
theorem kt325 : ke325.check E0 kT 4000 67 = true := by kernel_rfl
theorem kt326 : ke326.check E0 kT 4000 137 = true := by kernel_rfl
theorem kt327 : ke327.check E0 kT 4000 97 = true := by kernel_rfl
theorem kt328 : ke328.check E0 kT 4000 63 = true := by kernel_rfl
theorem kt329 : ke329.check E0 kT 4000 98 = true := by kernel_rfl
theorem kt330 : ke330.check E0 kT 4000 65 = true := by kernel_rfl
theorem kt331 : ke331.check E0 kT 4000 137 = true := by kernel_rfl
theorem kt332 : ke332.check E0 kT 4000 97 = true := by kernel_rfl
theorem kt333 : ke333.check E0 kT 4000 63 = true := by kernel_rfl
theorem kt334 : ke334.check E0 kT 4000 98 = true := by kernel_rfl
theorem kt335 : ke335.check E0 kT 4000 65 = true := by kernel_rfl
end Go.Proofs.YtphpoeekchcmkaaGreatDoor
