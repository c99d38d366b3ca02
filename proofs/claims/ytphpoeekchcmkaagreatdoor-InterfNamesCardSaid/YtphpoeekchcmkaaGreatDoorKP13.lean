/- A table of proved calls: PRINTED BY memo.py. -/
import Derived.Test.YtphpoeekchcmkaaGreatDoorKTab
import Derived.KernelRfl
namespace Go.Proofs.YtphpoeekchcmkaaGreatDoor
open Go Go.Te
theorem kt345 : ke345.check E0 kT 4000 12 = true := by kernel_rfl
theorem kt346 : ke346.check E0 kT 4000 10 = true := by kernel_rfl
theorem kt347 : ke347.check E0 kT 4000 50 = true := by kernel_rfl
theorem kt348 : ke348.check E0 kT 4000 27 = true := by kernel_rfl
theorem kt349 : ke349.check E0 kT 4000 87 = true := by kernel_rfl
theorem kt350 : ke350.check E0 kT 4000 51 = true := by kernel_rfl
theorem kt351 : ke351.check E0 kT 4000 87 = true := by kernel_rfl
theorem kt352 : ke352.check E0 kT 4000 51 = true := by kernel_rfl
theorem kt353 : ke353.check E0 kT 4000 102 = true := by kernel_rfl
theorem kt354 : ke354.check E0 kT 4000 141 = true := by kernel_rfl
theorem kt355 : ke355.check E0 kT 4000 162 = true := by kernel_rfl
theorem kt356 : ke356.check E0 kT 4000 128 = true := by kernel_rfl
theorem kt357 : ke357.check E0 kT 4000 142 = true := by kernel_rfl
theorem kt358 : ke358.check E0 kT 4000 163 = true := by kernel_rfl
theorem kt359 : ke359.check E0 kT 4000 129 = true := by kernel_rfl
theorem kt360 : ke360.check E0 kT 4000 88 = true := by kernel_rfl
theorem kt361 : ke361.check E0 kT 4000 87 = true := by kernel_rfl
theorem kt362 : ke362.check E0 kT 4000 51 = true := by kernel_rfl
theorem kt363 : ke363.check E0 kT 4000 52 = true := by kernel_rfl
theorem kt364 : ke364.check E0 kT 4000 28 = true := by kernel_rfl
theorem kt365 : ke365.check E0 kT 4000 11 = true := by kernel_rfl
theorem kt366 : ke366.check E0 kT 4000 18 = true := by kernel_rfl
theorem kt367 : ke367.check E0 kT 4000 12 = true := by kernel_rfl
end Go.Proofs.YtphpoeekchcmkaaGreatDoor
