/- A table of proved calls: PRINTED BY memo.py. -/
import Derived.Test.YtfcephkliamgfaaGreatDoorKTab
import Derived.KernelRfl
namespace Go.Proofs.YtfcephkliamgfaaGreatDoor
open Go Go.Te
theorem kt69 : ke69.check E0 kT 4000 165 = true := by kernel_rfl
theorem kt70 : ke70.check E0 kT 4000 85 = true := by kernel_rfl
theorem kt71 : ke71.check E0 kT 4000 80 = true := by kernel_rfl
theorem kt72 : ke72.check E0 kT 4000 165 = true := by kernel_rfl
theorem kt73 : ke73.check E0 kT 4000 85 = true := by kernel_rfl
theorem kt74 : ke74.check E0 kT 4000 80 = true := by kernel_rfl
theorem kt75 : ke75.check E0 kT 4000 165 = true := by kernel_rfl
theorem kt76 : ke76.check E0 kT 4000 166 = true := by kernel_rfl
theorem kt77 : ke77.check E0 kT 4000 105 = true := by kernel_rfl
theorem kt78 : ke78.check E0 kT 4000 58 = true := by kernel_rfl
theorem kt79 : ke79.check E0 kT 4000 59 = true := by kernel_rfl
theorem kt80 : ke80.check E0 kT 4000 64 = true := by kernel_rfl
theorem kt81 : ke81.check E0 kT 4000 65 = true := by kernel_rfl
theorem kt82 : ke82.check E0 kT 4000 46 = true := by kernel_rfl
theorem kt83 : ke83.check E0 kT 4000 77 = true := by kernel_rfl
theorem kt84 : ke84.check E0 kT 4000 167 = true := by kernel_rfl
theorem kt85 : ke85.check E0 kT 4000 198 = true := by kernel_rfl
theorem kt86 : ke86.check E0 kT 4000 199 = true := by kernel_rfl
theorem kt87 : ke87.check E0 kT 4000 149 = true := by kernel_rfl
theorem kt88 : ke88.check E0 kT 4000 167 = true := by kernel_rfl
theorem kt89 : ke89.check E0 kT 4000 168 = true := by kernel_rfl
theorem kt90 : ke90.check E0 kT 4000 106 = true := by kernel_rfl
theorem kt91 : ke91.check E0 kT 4000 60 = true := by kernel_rfl
theorem kt92 : ke92.check E0 kT 4000 37 = true := by kernel_rfl
theorem kt93 : ke93.check E0 kT 4000 38 = true := by kernel_rfl
theorem kt94 : ke94.check E0 kT 4000 147 = true := by kernel_rfl
theorem kt95 : ke95.check E0 kT 4000 147 = true := by kernel_rfl
theorem kt96 : ke96.check E0 kT 4000 94 = true := by kernel_rfl
theorem kt97 : ke97.check E0 kT 4000 54 = true := by kernel_rfl
end Go.Proofs.YtfcephkliamgfaaGreatDoor
