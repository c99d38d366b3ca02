/- A table of proved calls: PRINTED BY memo.py. -/
import Derived.Test.YtphpoeekchcmkaaGreatDoorKTab
import Derived.KernelRfl
namespace Go.Proofs.YtphpoeekchcmkaaGreatDoor
open Go Go.Te
theorem kt94 : ke94.check E0 kT 4000 17 = true := by kernel_rfl
theorem kt95 : ke95.check E0 kT 4000 5 = true := by kernel_rfl
theorem kt96 : ke96.check E0 kT 4000 18 = true := by kernel_rfl
theorem kt97 : ke97.check E0 kT 4000 7 = true := by kernel_rfl
theorem kt98 : ke98.check E0 kT 4000 39 = true := by kernel_rfl
theorem kt99 : ke99.check E0 kT 4000 72 = true := by kernel_rfl
theorem kt100 : ke100.check E0 kT 4000 73 = true := by kernel_rfl
theorem kt101 : ke101.check E0 kT 4000 118 = true := by kernel_rfl
theorem kt102 : ke102.check E0 kT 4000 153 = true := by kernel_rfl
theorem kt103 : ke103.check E0 kT 4000 154 = true := by kernel_rfl
theorem kt104 : ke104.check E0 kT 4000 119 = true := by kernel_rfl
theorem kt105 : ke105.check E0 kT 4000 120 = true := by kernel_rfl
theorem kt106 : ke106.check E0 kT 4000 153 = true := by kernel_rfl
theorem kt107 : ke107.check E0 kT 4000 154 = true := by kernel_rfl
theorem kt108 : ke108.check E0 kT 4000 119 = true := by kernel_rfl
theorem kt109 : ke109.check E0 kT 4000 120 = true := by kernel_rfl
theorem kt110 : ke110.check E0 kT 4000 153 = true := by kernel_rfl
theorem kt111 : ke111.check E0 kT 4000 154 = true := by kernel_rfl
theorem kt112 : ke112.check E0 kT 4000 119 = true := by kernel_rfl
theorem kt113 : ke113.check E0 kT 4000 120 = true := by kernel_rfl
theorem kt114 : ke114.check E0 kT 4000 153 = true := by kernel_rfl
theorem kt115 : ke115.check E0 kT 4000 178 = true := by kernel_rfl
theorem kt116 : ke116.check E0 kT 4000 154 = true := by kernel_rfl
theorem kt117 : ke117.check E0 kT 4000 119 = true := by kernel_rfl
theorem kt118 : ke118.check E0 kT 4000 120 = true := by kernel_rfl
theorem kt119 : ke119.check E0 kT 4000 153 = true := by kernel_rfl
theorem kt120 : ke120.check E0 kT 4000 154 = true := by kernel_rfl
theorem kt121 : ke121.check E0 kT 4000 119 = true := by kernel_rfl
theorem kt122 : ke122.check E0 kT 4000 120 = true := by kernel_rfl
theorem kt123 : ke123.check E0 kT 4000 153 = true := by kernel_rfl
theorem kt124 : ke124.check E0 kT 4000 119 = true := by kernel_rfl
theorem kt125 : ke125.check E0 kT 4000 120 = true := by kernel_rfl
theorem kt126 : ke126.check E0 kT 4000 74 = true := by kernel_rfl
end Go.Proofs.YtphpoeekchcmkaaGreatDoor
