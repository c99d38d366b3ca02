/- A table of proved calls: PRINTED BY memo.py. -/
import Derived.Test.YtphpoeekchcmkaaGreatDoorKTab
import Derived.KernelRfl
namespace Go.Proofs.YtphpoeekchcmkaaGreatDoor
open Go Go.Te
theorem kt68 : ke68.check E0 kT 4000 76 = true := by kernel_rfl
theorem kt69 : ke69.check E0 kT 4000 58 = true := by kernel_rfl
theorem kt70 : ke70.check E0 kT 4000 57 = true := by kernel_rfl
theorem kt71 : ke71.check E0 kT 4000 76 = true := by kernel_rfl
theorem kt72 : ke72.check E0 kT 4000 58 = true := by kernel_rfl
theorem kt73 : ke73.check E0 kT 4000 57 = true := by kernel_rfl
theorem kt74 : ke74.check E0 kT 4000 76 = true := by kernel_rfl
theorem kt75 : ke75.check E0 kT 4000 58 = true := by kernel_rfl
theorem kt76 : ke76.check E0 kT 4000 57 = true := by kernel_rfl
theorem kt77 : ke77.check E0 kT 4000 76 = true := by kernel_rfl
theorem kt78 : ke78.check E0 kT 4000 58 = true := by kernel_rfl
theorem kt79 : ke79.check E0 kT 4000 59 = true := by kernel_rfl
theorem kt80 : ke80.check E0 kT 4000 32 = true := by kernel_rfl
theorem kt81 : ke81.check E0 kT 4000 15 = true := by kernel_rfl
theorem kt82 : ke82.check E0 kT 4000 16 = true := by kernel_rfl
theorem kt83 : ke83.check E0 kT 4000 47 = true := by kernel_rfl
theorem kt84 : ke84.check E0 kT 4000 48 = true := by kernel_rfl
theorem kt85 : ke85.check E0 kT 4000 26 = true := by kernel_rfl
theorem kt86 : ke86.check E0 kT 4000 33 = true := by kernel_rfl
theorem kt87 : ke87.check E0 kT 4000 60 = true := by kernel_rfl
theorem kt88 : ke88.check E0 kT 4000 135 = true := by kernel_rfl
theorem kt89 : ke89.check E0 kT 4000 136 = true := by kernel_rfl
theorem kt90 : ke90.check E0 kT 4000 96 = true := by kernel_rfl
theorem kt91 : ke91.check E0 kT 4000 60 = true := by kernel_rfl
theorem kt92 : ke92.check E0 kT 4000 61 = true := by kernel_rfl
theorem kt93 : ke93.check E0 kT 4000 35 = true := by kernel_rfl
end Go.Proofs.YtphpoeekchcmkaaGreatDoor
