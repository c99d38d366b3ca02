/- A table of proved calls: PRINTED BY memo.py. -/
import Derived.Test.YtfcephkliamgfaaGreatDoorKTab
import Derived.KernelRfl
namespace Go.Proofs.YtfcephkliamgfaaGreatDoor
open Go Go.Te
theorem kt257 : ke257.check E0 kT 4000 49 = true := by kernel_rfl
theorem kt258 : ke258.check E0 kT 4000 28 = true := by kernel_rfl
theorem kt259 : ke259.check E0 kT 4000 47 = true := by kernel_rfl
theorem kt260 : ke260.check E0 kT 4000 116 = true := by kernel_rfl
theorem kt261 : ke261.check E0 kT 4000 116 = true := by kernel_rfl
theorem kt262 : ke262.check E0 kT 4000 116 = true := by kernel_rfl
theorem kt263 : ke263.check E0 kT 4000 116 = true := by kernel_rfl
end Go.Proofs.YtfcephkliamgfaaGreatDoor
