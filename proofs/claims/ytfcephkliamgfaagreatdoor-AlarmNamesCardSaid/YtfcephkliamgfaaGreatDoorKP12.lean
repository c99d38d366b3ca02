/- A table of proved calls: PRINTED BY memo.py. -/
import Derived.Test.YtfcephkliamgfaaGreatDoorKTab
import Derived.KernelRfl
namespace Go.Proofs.YtfcephkliamgfaaGreatDoor
open Go Go.Te
theorem kt330 : ke330.check E0 kT 4000 29 = true := by kernel_rfl
theorem kt331 : ke331.check E0 kT 4000 29 = true := by kernel_rfl
theorem kt332 : ke332.check E0 kT 4000 29 = true := by kernel_rfl
theorem kt333 : ke333.check E0 kT 4000 29 = true := by kernel_rfl
theorem kt334 : ke334.check E0 kT 4000 9 = true := by kernel_rfl
theorem kt335 : ke335.check E0 kT 4000 29 = true := by kernel_rfl
theorem kt336 : ke336.check E0 kT 4000 29 = true := by kernel_rfl
theorem kt337 : ke337.check E0 kT 4000 4 = true := by kernel_rfl
theorem kt338 : ke338.check E0 kT 4000 6 = true := by kernel_rfl
theorem kt339 : ke339.check E0 kT 4000 7 = true := by kernel_rfl
theorem kt340 : ke340.check E0 kT 4000 22 = true := by kernel_rfl
theorem kt341 : ke341.check E0 kT 4000 8 = true := by kernel_rfl
theorem kt342 : ke342.check E0 kT 4000 9 = true := by kernel_rfl
theorem kt343 : ke343.check E0 kT 4000 9 = true := by kernel_rfl
theorem kt344 : ke344.check E0 kT 4000 10 = true := by kernel_rfl
theorem kt345 : ke345.check E0 kT 4000 10 = true := by kernel_rfl
theorem kt346 : ke346.check E0 kT 4000 11 = true := by kernel_rfl
theorem kt347 : ke347.check E0 kT 4000 11 = true := by kernel_rfl
theorem kt348 : ke348.check E0 kT 4000 45 = true := by kernel_rfl
theorem kt349 : ke349.check E0 kT 4000 45 = true := by kernel_rfl
theorem kt350 : ke350.check E0 kT 4000 26 = true := by kernel_rfl
theorem kt351 : ke351.check E0 kT 4000 26 = true := by kernel_rfl
theorem kt352 : ke352.check E0 kT 4000 26 = true := by kernel_rfl
theorem kt353 : ke353.check E0 kT 4000 25 = true := by kernel_rfl
theorem kt354 : ke354.check E0 kT 4000 12 = true := by kernel_rfl
end Go.Proofs.YtfcephkliamgfaaGreatDoor
