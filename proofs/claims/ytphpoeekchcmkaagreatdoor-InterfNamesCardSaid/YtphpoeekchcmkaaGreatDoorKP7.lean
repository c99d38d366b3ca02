/- A table of proved calls: PRINTED BY memo.py. -/
import Derived.Test.YtphpoeekchcmkaaGreatDoorKTab
import Derived.KernelRfl
namespace Go.Proofs.YtphpoeekchcmkaaGreatDoor
open Go Go.Te
theorem kt226 : ke226.check E0 kT 4000 249 = true := by kernel_rfl
theorem kt227 : ke227.check E0 kT 4000 236 = true := by kernel_rfl
theorem kt228 : ke228.check E0 kT 4000 141 = true := by kernel_rfl
theorem kt229 : ke229.check E0 kT 4000 273 = true := by kernel_rfl
theorem kt230 : ke230.check E0 kT 4000 250 = true := by kernel_rfl
theorem kt231 : ke231.check E0 kT 4000 221 = true := by kernel_rfl
theorem kt232 : ke232.check E0 kT 4000 142 = true := by kernel_rfl
theorem kt233 : ke233.check E0 kT 4000 280 = true := by kernel_rfl
theorem kt234 : ke234.check E0 kT 4000 281 = true := by kernel_rfl
theorem kt235 : ke235.check E0 kT 4000 270 = true := by kernel_rfl
theorem kt236 : ke236.check E0 kT 4000 241 = true := by kernel_rfl
theorem kt237 : ke237.check E0 kT 4000 238 = true := by kernel_rfl
theorem kt238 : ke238.check E0 kT 4000 223 = true := by kernel_rfl
theorem kt239 : ke239.check E0 kT 4000 127 = true := by kernel_rfl
theorem kt240 : ke240.check E0 kT 4000 180 = true := by kernel_rfl
theorem kt241 : ke241.check E0 kT 4000 155 = true := by kernel_rfl
theorem kt242 : ke242.check E0 kT 4000 168 = true := by kernel_rfl
theorem kt243 : ke243.check E0 kT 4000 156 = true := by kernel_rfl
theorem kt244 : ke244.check E0 kT 4000 142 = true := by kernel_rfl
theorem kt245 : ke245.check E0 kT 4000 158 = true := by kernel_rfl
theorem kt246 : ke246.check E0 kT 4000 122 = true := by kernel_rfl
theorem kt247 : ke247.check E0 kT 4000 204 = true := by kernel_rfl
theorem kt248 : ke248.check E0 kT 4000 89 = true := by kernel_rfl
theorem kt249 : ke249.check E0 kT 4000 53 = true := by kernel_rfl
theorem kt250 : ke250.check E0 kT 4000 30 = true := by kernel_rfl
end Go.Proofs.YtphpoeekchcmkaaGreatDoor
