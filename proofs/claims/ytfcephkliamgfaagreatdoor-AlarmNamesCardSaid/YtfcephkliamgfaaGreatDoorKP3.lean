/- A table of proved calls: PRINTED BY memo.py. -/
import Derived.Test.YtfcephkliamgfaaGreatDoorKTab
import Derived.KernelRfl
namespace Go.Proofs.YtfcephkliamgfaaGreatDoor
open Go Go.Te
theorem kt98 : ke98.check E0 kT 4000 94 = true := by kernel_rfl
theorem kt99 : ke99.check E0 kT 4000 54 = true := by kernel_rfl
theorem kt100 : ke100.check E0 kT 4000 47 = true := by kernel_rfl
theorem kt101 : ke101.check E0 kT 4000 208 = true := by kernel_rfl
theorem kt102 : ke102.check E0 kT 4000 157 = true := by kernel_rfl
theorem kt103 : ke103.check E0 kT 4000 211 = true := by kernel_rfl
theorem kt104 : ke104.check E0 kT 4000 237 = true := by kernel_rfl
theorem kt105 : ke105.check E0 kT 4000 212 = true := by kernel_rfl
theorem kt106 : ke106.check E0 kT 4000 215 = true := by kernel_rfl
theorem kt107 : ke107.check E0 kT 4000 213 = true := by kernel_rfl
theorem kt108 : ke108.check E0 kT 4000 103 = true := by kernel_rfl
theorem kt109 : ke109.check E0 kT 4000 180 = true := by kernel_rfl
theorem kt110 : ke110.check E0 kT 4000 214 = true := by kernel_rfl
theorem kt111 : ke111.check E0 kT 4000 173 = true := by kernel_rfl
theorem kt112 : ke112.check E0 kT 4000 119 = true := by kernel_rfl
theorem kt113 : ke113.check E0 kT 4000 158 = true := by kernel_rfl
theorem kt114 : ke114.check E0 kT 4000 208 = true := by kernel_rfl
theorem kt115 : ke115.check E0 kT 4000 157 = true := by kernel_rfl
theorem kt116 : ke116.check E0 kT 4000 92 = true := by kernel_rfl
theorem kt117 : ke117.check E0 kT 4000 93 = true := by kernel_rfl
theorem kt118 : ke118.check E0 kT 4000 53 = true := by kernel_rfl
theorem kt119 : ke119.check E0 kT 4000 116 = true := by kernel_rfl
theorem kt120 : ke120.check E0 kT 4000 116 = true := by kernel_rfl
theorem kt121 : ke121.check E0 kT 4000 116 = true := by kernel_rfl
theorem kt122 : ke122.check E0 kT 4000 116 = true := by kernel_rfl
theorem kt123 : ke123.check E0 kT 4000 64 = true := by kernel_rfl
theorem kt124 : ke124.check E0 kT 4000 46 = true := by kernel_rfl
theorem kt125 : ke125.check E0 kT 4000 124 = true := by kernel_rfl
theorem kt126 : ke126.check E0 kT 4000 70 = true := by kernel_rfl
theorem kt127 : ke127.check E0 kT 4000 73 = true := by kernel_rfl
theorem kt128 : ke128.check E0 kT 4000 73 = true := by kernel_rfl
theorem kt129 : ke129.check E0 kT 4000 182 = true := by kernel_rfl
theorem kt130 : ke130.check E0 kT 4000 133 = true := by kernel_rfl
theorem kt131 : ke131.check E0 kT 4000 74 = true := by kernel_rfl
theorem kt132 : ke132.check E0 kT 4000 31 = true := by kernel_rfl
theorem kt133 : ke133.check E0 kT 4000 144 = true := by kernel_rfl
theorem kt134 : ke134.check E0 kT 4000 78 = true := by kernel_rfl
theorem kt135 : ke135.check E0 kT 4000 79 = true := by kernel_rfl
theorem kt136 : ke136.check E0 kT 4000 50 = true := by kernel_rfl
end Go.Proofs.YtfcephkliamgfaaGreatDoor
