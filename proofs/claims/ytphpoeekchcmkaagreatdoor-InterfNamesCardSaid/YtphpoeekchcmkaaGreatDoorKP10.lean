/- A table of proved calls: PRINTED BY memo.py. -/
import Derived.Test.YtphpoeekchcmkaaGreatDoorKTab
import Derived.KernelRfl
namespace Go.Proofs.YtphpoeekchcmkaaGreatDoor
open Go Go.Te
theorem kt285 : ke285.check E0 kT 4000 19 = true := by kernel_rfl
theorem kt286 : ke286.check E0 kT 4000 36 = true := by kernel_rfl
theorem kt287 : ke287.check E0 kT 4000 77 = true := by kernel_rfl
theorem kt288 : ke288.check E0 kT 4000 77 = true := by kernel_rfl
theorem kt289 : ke289.check E0 kT 4000 77 = true := by kernel_rfl
theorem kt290 : ke290.check E0 kT 4000 77 = true := by kernel_rfl
theorem kt291 : ke291.check E0 kT 4000 47 = true := by kernel_rfl
theorem kt292 : ke292.check E0 kT 4000 48 = true := by kernel_rfl
theorem kt293 : ke293.check E0 kT 4000 26 = true := by kernel_rfl
theorem kt294 : ke294.check E0 kT 4000 66 = true := by kernel_rfl
theorem kt295 : ke295.check E0 kT 4000 34 = true := by kernel_rfl
theorem kt296 : ke296.check E0 kT 4000 34 = true := by kernel_rfl
theorem kt297 : ke297.check E0 kT 4000 34 = true := by kernel_rfl
theorem kt298 : ke298.check E0 kT 4000 34 = true := by kernel_rfl
theorem kt299 : ke299.check E0 kT 4000 137 = true := by kernel_rfl
theorem kt300 : ke300.check E0 kT 4000 137 = true := by kernel_rfl
theorem kt301 : ke301.check E0 kT 4000 138 = true := by kernel_rfl
theorem kt302 : ke302.check E0 kT 4000 97 = true := by kernel_rfl
theorem kt303 : ke303.check E0 kT 4000 63 = true := by kernel_rfl
theorem kt304 : ke304.check E0 kT 4000 98 = true := by kernel_rfl
theorem kt305 : ke305.check E0 kT 4000 98 = true := by kernel_rfl
theorem kt306 : ke306.check E0 kT 4000 65 = true := by kernel_rfl
theorem kt307 : ke307.check E0 kT 4000 97 = true := by kernel_rfl
theorem kt308 : ke308.check E0 kT 4000 63 = true := by kernel_rfl
theorem kt309 : ke309.check E0 kT 4000 65 = true := by kernel_rfl
theorem kt310 : ke310.check E0 kT 4000 102 = true := by kernel_rfl
theorem kt311 : ke311.check E0 kT 4000 141 = true := by kernel_rfl
theorem kt312 : ke312.check E0 kT 4000 105 = true := by kernel_rfl
end Go.Proofs.YtphpoeekchcmkaaGreatDoor
