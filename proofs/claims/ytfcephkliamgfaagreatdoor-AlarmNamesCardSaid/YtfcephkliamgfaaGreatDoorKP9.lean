/- A table of proved calls: PRINTED BY memo.py. -/
import Derived.Test.YtfcephkliamgfaaGreatDoorKTab
import Derived.KernelRfl
namespace Go.Proofs.YtfcephkliamgfaaGreatDoor
open Go Go.Te
theorem kt264 : ke264.check E0 kT 4000 64 = true := by kernel_rfl
theorem kt265 : ke265.check E0 kT 4000 65 = true := by kernel_rfl
theorem kt266 : ke266.check E0 kT 4000 46 = true := by kernel_rfl
theorem kt267 : ke267.check E0 kT 4000 70 = true := by kernel_rfl
theorem kt268 : ke268.check E0 kT 4000 73 = true := by kernel_rfl
theorem kt269 : ke269.check E0 kT 4000 73 = true := by kernel_rfl
theorem kt270 : ke270.check E0 kT 4000 73 = true := by kernel_rfl
theorem kt271 : ke271.check E0 kT 4000 73 = true := by kernel_rfl
theorem kt272 : ke272.check E0 kT 4000 175 = true := by kernel_rfl
theorem kt273 : ke273.check E0 kT 4000 127 = true := by kernel_rfl
theorem kt274 : ke274.check E0 kT 4000 179 = true := by kernel_rfl
theorem kt275 : ke275.check E0 kT 4000 130 = true := by kernel_rfl
theorem kt276 : ke276.check E0 kT 4000 131 = true := by kernel_rfl
theorem kt277 : ke277.check E0 kT 4000 129 = true := by kernel_rfl
theorem kt278 : ke278.check E0 kT 4000 71 = true := by kernel_rfl
theorem kt279 : ke279.check E0 kT 4000 175 = true := by kernel_rfl
theorem kt280 : ke280.check E0 kT 4000 176 = true := by kernel_rfl
theorem kt281 : ke281.check E0 kT 4000 122 = true := by kernel_rfl
theorem kt282 : ke282.check E0 kT 4000 67 = true := by kernel_rfl
theorem kt283 : ke283.check E0 kT 4000 123 = true := by kernel_rfl
theorem kt284 : ke284.check E0 kT 4000 123 = true := by kernel_rfl
theorem kt285 : ke285.check E0 kT 4000 69 = true := by kernel_rfl
theorem kt286 : ke286.check E0 kT 4000 127 = true := by kernel_rfl
theorem kt287 : ke287.check E0 kT 4000 179 = true := by kernel_rfl
theorem kt288 : ke288.check E0 kT 4000 130 = true := by kernel_rfl
theorem kt289 : ke289.check E0 kT 4000 131 = true := by kernel_rfl
theorem kt290 : ke290.check E0 kT 4000 129 = true := by kernel_rfl
theorem kt291 : ke291.check E0 kT 4000 71 = true := by kernel_rfl
theorem kt292 : ke292.check E0 kT 4000 175 = true := by kernel_rfl
theorem kt293 : ke293.check E0 kT 4000 122 = true := by kernel_rfl
theorem kt294 : ke294.check E0 kT 4000 67 = true := by kernel_rfl
theorem kt295 : ke295.check E0 kT 4000 123 = true := by kernel_rfl
theorem kt296 : ke296.check E0 kT 4000 69 = true := by kernel_rfl
theorem kt297 : ke297.check E0 kT 4000 127 = true := by kernel_rfl
end Go.Proofs.YtfcephkliamgfaaGreatDoor
