/- A table of proved calls: PRINTED BY memo.py. -/
import Derived.Test.YtfcephkliamgfaaGreatDoorKTab
import Derived.KernelRfl
namespace Go.Proofs.YtfcephkliamgfaaGreatDoor
open Go Go.Te
theorem kt298 : ke298.check E0 kT 4000 179 = true := by kernel_rfl
theorem kt299 : ke299.check E0 kT 4000 130 = true := by kernel_rfl
theorem kt300 : ke300.check E0 kT 4000 131 = true := by kernel_rfl
theorem kt301 : ke301.check E0 kT 4000 129 = true := by kernel_rfl
theorem kt302 : ke302.check E0 kT 4000 71 = true := by kernel_rfl
theorem kt303 : ke303.check E0 kT 4000 175 = true := by kernel_rfl
theorem kt304 : ke304.check E0 kT 4000 122 = true := by kernel_rfl
theorem kt305 : ke305.check E0 kT 4000 67 = true := by kernel_rfl
theorem kt306 : ke306.check E0 kT 4000 123 = true := by kernel_rfl
theorem kt307 : ke307.check E0 kT 4000 69 = true := by kernel_rfl
theorem kt308 : ke308.check E0 kT 4000 127 = true := by kernel_rfl
theorem kt309 : ke309.check E0 kT 4000 179 = true := by kernel_rfl
theorem kt310 : ke310.check E0 kT 4000 130 = true := by kernel_rfl
theorem kt311 : ke311.check E0 kT 4000 131 = true := by kernel_rfl
theorem kt312 : ke312.check E0 kT 4000 71 = true := by kernel_rfl
theorem kt313 : ke313.check E0 kT 4000 175 = true := by kernel_rfl
theorem kt314 : ke314.check E0 kT 4000 122 = true := by kernel_rfl
theorem kt315 : ke315.check E0 kT 4000 67 = true := by kernel_rfl
theorem kt316 : ke316.check E0 kT 4000 123 = true := by kernel_rfl
theorem kt317 : ke317.check E0 kT 4000 69 = true := by kernel_rfl
theorem kt318 : ke318.check E0 kT 4000 175 = true := by kernel_rfl
theorem kt319 : ke319.check E0 kT 4000 122 = true := by kernel_rfl
theorem kt320 : ke320.check E0 kT 4000 67 = true := by kernel_rfl
theorem kt321 : ke321.check E0 kT 4000 123 = true := by kernel_rfl
theorem kt322 : ke322.check E0 kT 4000 69 = true := by kernel_rfl
end Go.Proofs.YtfcephkliamgfaaGreatDoor
