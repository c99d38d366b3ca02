/- A table of proved calls: PRINTED BY memo.py. -/
import Derived.Test.YtfcephkliamgfaaGreatDoorKTab
import Derived.KernelRfl
namespace Go.Proofs.YtfcephkliamgfaaGreatDoor
open Go Go.Te
theorem kt239 : ke239.check E0 kT 4000 127 = true := by kernel_rfl
theorem kt240 : ke240.check E0 kT 4000 129 = true := by kernel_rfl
theorem kt241 : ke241.check E0 kT 4000 224 = true := by kernel_rfl
theorem kt242 : ke242.check E0 kT 4000 202 = true := by kernel_rfl
theorem kt243 : ke243.check E0 kT 4000 94 = true := by kernel_rfl
theorem kt244 : ke244.check E0 kT 4000 54 = true := by kernel_rfl
theorem kt245 : ke245.check E0 kT 4000 240 = true := by kernel_rfl
theorem kt246 : ke246.check E0 kT 4000 223 = true := by kernel_rfl
theorem kt247 : ke247.check E0 kT 4000 94 = true := by kernel_rfl
theorem kt248 : ke248.check E0 kT 4000 54 = true := by kernel_rfl
theorem kt249 : ke249.check E0 kT 4000 51 = true := by kernel_rfl
theorem kt250 : ke250.check E0 kT 4000 50 = true := by kernel_rfl
theorem kt251 : ke251.check E0 kT 4000 208 = true := by kernel_rfl
theorem kt252 : ke252.check E0 kT 4000 157 = true := by kernel_rfl
theorem kt253 : ke253.check E0 kT 4000 92 = true := by kernel_rfl
theorem kt254 : ke254.check E0 kT 4000 53 = true := by kernel_rfl
theorem kt255 : ke255.check E0 kT 4000 87 = true := by kernel_rfl
theorem kt256 : ke256.check E0 kT 4000 51 = true := by kernel_rfl
end Go.Proofs.YtfcephkliamgfaaGreatDoor
