/- A table of proved calls: PRINTED BY memo.py. -/
import Derived.Test.YtphpoeekchcmkaaGreatDoorKTab
import Derived.KernelRfl
namespace Go.Proofs.YtphpoeekchcmkaaGreatDoor
open Go Go.Te
theorem kt281 : ke281.check E0 kT 4000 49 = true := by kernel_rfl
theorem kt282 : ke282.check E0 kT 4000 148 = true := by kernel_rfl
theorem kt283 : ke283.check E0 kT 4000 112 = true := by kernel_rfl
theorem kt284 : ke284.check E0 kT 4000 38 = true := by kernel_rfl
end Go.Proofs.YtphpoeekchcmkaaGreatDoor
