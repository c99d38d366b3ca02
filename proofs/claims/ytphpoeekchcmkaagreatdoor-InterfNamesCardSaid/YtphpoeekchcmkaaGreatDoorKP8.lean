/- A table of proved calls: PRINTED BY memo.py. -/
import Derived.Test.YtphpoeekchcmkaaGreatDoorKTab
import Derived.KernelRfl
namespace Go.Proofs.YtphpoeekchcmkaaGreatDoor
open Go Go.Te
theorem kt251 : ke251.check E0 kT 4000 112 = true := by kernel_rfl
theorem kt252 : ke252.check E0 kT 4000 50 = true := by kernel_rfl
theorem kt253 : ke253.check E0 kT 4000 80 = true := by kernel_rfl
theorem kt254 : ke254.check E0 kT 4000 125 = true := by kernel_rfl
theorem kt255 : ke255.check E0 kT 4000 159 = true := by kernel_rfl
theorem kt256 : ke256.check E0 kT 4000 124 = true := by kernel_rfl
theorem kt257 : ke257.check E0 kT 4000 83 = true := by kernel_rfl
theorem kt258 : ke258.check E0 kT 4000 49 = true := by kernel_rfl
theorem kt259 : ke259.check E0 kT 4000 148 = true := by kernel_rfl
theorem kt260 : ke260.check E0 kT 4000 248 = true := by kernel_rfl
theorem kt261 : ke261.check E0 kT 4000 141 = true := by kernel_rfl
theorem kt262 : ke262.check E0 kT 4000 233 = true := by kernel_rfl
theorem kt263 : ke263.check E0 kT 4000 142 = true := by kernel_rfl
theorem kt264 : ke264.check E0 kT 4000 248 = true := by kernel_rfl
theorem kt265 : ke265.check E0 kT 4000 235 = true := by kernel_rfl
theorem kt266 : ke266.check E0 kT 4000 102 = true := by kernel_rfl
theorem kt267 : ke267.check E0 kT 4000 104 = true := by kernel_rfl
theorem kt268 : ke268.check E0 kT 4000 218 = true := by kernel_rfl
theorem kt269 : ke269.check E0 kT 4000 202 = true := by kernel_rfl
theorem kt270 : ke270.check E0 kT 4000 53 = true := by kernel_rfl
theorem kt271 : ke271.check E0 kT 4000 30 = true := by kernel_rfl
theorem kt272 : ke272.check E0 kT 4000 231 = true := by kernel_rfl
theorem kt273 : ke273.check E0 kT 4000 217 = true := by kernel_rfl
theorem kt274 : ke274.check E0 kT 4000 53 = true := by kernel_rfl
theorem kt275 : ke275.check E0 kT 4000 30 = true := by kernel_rfl
theorem kt276 : ke276.check E0 kT 4000 112 = true := by kernel_rfl
theorem kt277 : ke277.check E0 kT 4000 50 = true := by kernel_rfl
theorem kt278 : ke278.check E0 kT 4000 159 = true := by kernel_rfl
theorem kt279 : ke279.check E0 kT 4000 124 = true := by kernel_rfl
theorem kt280 : ke280.check E0 kT 4000 83 = true := by kernel_rfl
end Go.Proofs.YtphpoeekchcmkaaGreatDoor
